/-
  What a writer writes: contracts. What the document writes: contracts. Operations: contracts. The library's functions as the program bears them, by program. Paths: contracts.
  Conditions: those that stand ahead of each theorem; no more.
-/
import Derived.Shelf.Strings.Search3
import Derived.Shelf.Strings.Repeat
import Derived.Test.YtblnejkfaniljaaGreatDoorT16
import Derived.Test.YtblnejkfaniljaaGreatDoorT25

section
namespace Go.Abs
open Go
set_option maxRecDepth 20000

theorem Weak.keep {n0 : Nat} {tm : TM} {H : HP} (l : List Nat) : Weak n0 tm H (keepLive tm l) H := fun σ _ e I hf => ⟨σ, rfl, e, I, hf.keepLive l, Tr.refl _ _⟩

section
variable {H : HP} {t k : Nat} {s : Bs}

theorem wH_s (ht : t < H.length) (hn : t ≠ k) (r : Blk) : ((wH H t k s).set k r)[t]? = some (.cell (.agg [.sl 1 (bytesV s) (.row k)])) := by rw [List.getElem?_set_ne (Ne.symm hn), wH_t ht]

theorem wH_done {e : Bs} {X : HP} {Q : V → HP → Prop} {r : V} (hU : underH H.length (wH H t k s) = true) (_ht : t < H.length) (hk : k < H.length) (hn : t ≠ k) (hX : X = wH H t k e) (hq : Q r (wH H t k e)) :
    ∃ H', (∃ x, X = H' ++ x) ∧ H'.length = H.length ∧ underH H.length H' = true ∧ Q r H' := by
  refine ⟨_, ⟨[], hX.trans (List.append_nil _).symm⟩, wH_length, ?_, hq⟩
  rw [← wH_set (s := s) hn rfl]
  exact underH_set (underH_setRow hU) (by simp [V.under, V.underL, hk])

theorem TC.bodyW {P : Program} {f : FuncId} {cc : CC} {rd : List RD} {n : Nat} (hc : chkFn P f cc rd n = true) (hP : P.follows .mixedOrders = true) {args : List V} {Q : V → HP → Prop} (hl : args.length = n)
    (h : underH H.length (wH H t k s) = true → AW P H.length cc (RetS rd H.length Q) (enter args 0) (wH H t k s)) : TC P f args (wH H t k s) Q := by
  refine TC.under fun hU => TC.bodyS hc hP hl ?_
  rw [wH_length] at hU ⊢
  exact h hU

theorem f_Writer_Byte (ht : t < H.length) (hk : k < H.length) (hn : t ≠ k) (b : UInt8) (hs : s.length < 1073741824) : TC Pg n_pack_Writer_Byte [.ptr t [], .int .u8 b.toNat] (wH H t k s) fun _ H' => H' = wH H t k (s ++ [b]) := by
  refine TC.bodyW k_pack_Writer_Byte hP rfl fun hU => ?_
  generalize hQ : (fun (_ : V) (H' : HP) => H' = wH H t k (s ++ [b])) = Q
  simp [c_pack_Writer_Byte, r_pack_Writer_Byte, wH_t ht, wH_k hk hn, wH_s ht hn]
  refine ⟨by omega, wH_done (e := s ++ [b]) hU ht hk hn ?_ (by rw [← hQ])⟩
  rw [← wH_set (s := s) (e := s ++ [b]) (n := s.length + 1) hn (by simp)]
  simp [bytesV, byteV]

theorem f_Writer_String (ht : t < H.length) (_hk : k < H.length) (_hn : t ≠ k) : TC Pg n_pack_Writer_String [.ptr t []] (wH H t k s) fun r H' => r = .str s ∧ H' = wH H t k s := by
  refine TC.bodyW k_pack_Writer_String hP rfl fun hU => ?_
  simp [c_pack_Writer_String, r_pack_Writer_String, wH_t ht]
  exact ⟨bytesV_isByte s, _, ⟨⟨[], (List.append_nil _).symm⟩, wH_length, hU, rfl⟩⟩

/-- A number as groups. -/
def numB (v : Nat) : Bs := if v < 128 then [b8 v] else b8 ((v % 128 + 128 : Nat) : Int) :: numB (v / 128)
termination_by v
decreasing_by omega

theorem or128 : ∀ n : Fin 256, ibits .or .u8 (n.val : Int) 128 = ((n.val % 128 + 128 : Nat) : Int) := by decide

theorem numB_length : ∀ (m v : Nat), v < 128 ^ (m + 1) → (numB v).length ≤ m + 1
  | 0, v, h => by rw [numB, if_pos (by simpa using h)]; exact Nat.le_refl _
  | m + 1, v, h => by
    rw [numB]
    split
    · simp
    · have := numB_length m (v / 128) (by rw [Nat.pow_succ] at h; exact Nat.div_lt_of_lt_mul (by rw [Nat.mul_comm]; exact h))
      rw [List.length_cons]
      omega
theorem numB_le (v : Nat) (h : v ≤ 4611686018427387904) : (numB v).length ≤ 9 := numB_length 8 v (by omega)

theorem f_Writer_Num (ht : t < H.length) (hk : k < H.length) (hn : t ≠ k) (v : Nat) (hv : v ≤ 4611686018427387904) (hs : s.length < 1073741000) : TC Pg n_pack_Writer_Num [.ptr t [], .int .i64 v] (wH H t k s) fun r H' => r = .bool true ∧ H' = wH H t k (s ++ numB v) := by
  refine TC.bodyW k_pack_Writer_Num hP rfl fun hU => ?_
  generalize hQ : (fun (r : V) (H' : HP) => r = .bool true ∧ H' = wH H t k (s ++ numB v)) = Q
  have h1 : ¬ ((v : Int) < 0) := by omega
  have h2 : ¬ (4611686018427387904 < (v : Int)) := by omega
  simp [c_pack_Writer_Num, r_pack_Writer_Num, h1, h2]
  refine AW_wloop (fun q : Nat × Bs => [(0, .ptr t []), (1, .int .i64 q.1)]) (fun q => wH H t k q.2) (fun q => q.2 ++ numB q.1 = s ++ numB v ∧ q.1 ≤ v) (fun q => q.1) (v, s) ⟨rfl, Nat.le_refl _⟩ (Weak.keep [0, 1]) ?_
  rintro ⟨n, e⟩ ⟨he, hnv⟩
  have hle : e.length ≤ s.length + 9 := by
    have := congrArg List.length he
    have := numB_le v hv
    simp at *
    omega
  rcases Nat.lt_or_ge n 128 with h | h
  · have h3 : ¬ (128 ≤ (n : Int)) := by omega
    have h4 : IntKind.u8.wrap (n : Int) = ((b8 n).toNat : Int) := by rw [b8_toNat, wrap_u8]
    simp [h3, h4]
    refine CallB.w (f_Writer_Byte ht hk hn (b8 n) (by omega)) ?_
    rintro _ _ rfl
    simp
    have hnb : numB n = [b8 n] := by rw [numB]; simp [h]
    refine wH_done (e := s ++ numB v) hU ht hk hn ?_ (by rw [← hQ]; exact ⟨rfl, rfl⟩)
    rw [← he, hnb]
  · have h3 : (128 ≤ (n : Int)) := by omega
    have h4 : ibits .or .u8 (IntKind.u8.wrap (n : Int)) 128 = ((b8 ((n % 128 + 128 : Nat) : Int)).toNat : Int) := by
      rw [b8_toNat, wrap_u8]
      have := or128 ⟨n % 256, Nat.mod_lt _ (by decide)⟩
      have e1 : ((n : Int) % 256) = ((n % 256 : Nat) : Int) := by omega
      rw [e1, this]
      show (((n % 256) % 128 + 128 : Nat) : Int) = _
      omega
    have h5 : shr .i64 (n : Int) 7 = ((n / 128 : Nat) : Int) := by
      unfold shr
      have : min (7 : Int).toNat IntKind.i64.bits = 7 := rfl
      rw [this, Int.fdiv_eq_ediv_of_nonneg _ (by decide)]
      omega
    simp [h3, h4]
    refine CallB.w (f_Writer_Byte ht hk hn (b8 ((n % 128 + 128 : Nat) : Int)) (by omega)) ?_
    rintro _ _ rfl
    simp [h5, -Int.natCast_ediv]
    refine ⟨n / 128, e ++ [b8 ((n % 128 + 128 : Nat) : Int)], ⟨?_, by simp at hnv; omega⟩, by omega, rfl, rfl⟩
    have hnb : numB n = b8 ((n % 128 + 128 : Nat) : Int) :: numB (n / 128) := by rw [numB, if_neg (by omega)]
    rw [← he]
    simp [hnb]

theorem f_Writer_Text (ht : t < H.length) (hk : k < H.length) (hn : t ≠ k) (e : Bs) (hs : s.length + e.length < 1073740000) : TC Pg n_pack_Writer_Text [.ptr t [], .str e] (wH H t k s) fun _ H' => H' = wH H t k (s ++ (numB e.length ++ e)) := by
  refine TC.bodyW k_pack_Writer_Text hP rfl fun hU => ?_
  generalize hQ : (fun (_ : V) (H' : HP) => H' = wH H t k (s ++ (numB e.length ++ e))) = Q
  simp [c_pack_Writer_Text, r_pack_Writer_Text]
  have hb := numB_le e.length (by omega)
  refine CallB.w (f_Writer_Num ht hk hn e.length (by omega) (by omega)) ?_
  rintro _ _ ⟨rfl, rfl⟩
  simp [wH_t ht, wH_k hk hn, wH_s ht hn]
  refine ⟨by omega, wH_done (e := s ++ (numB e.length ++ e)) hU ht hk hn ?_ (by rw [← hQ])⟩
  rw [← wH_set (s := s ++ numB e.length) (e := s ++ (numB e.length ++ e)) (n := s.length + (numB e.length).length + e.length) hn (by simp; omega)]

theorem f_Writer_Id (ht : t < H.length) (hk : k < H.length) (hn : t ≠ k) (a : Bs) (ha : a.length = 32) (hs : s.length < 1073740000) : TC Pg n_pack_Writer_Id [.ptr t [], idV a] (wH H t k s) fun _ H' => H' = wH H t k (s ++ a) := by
  refine TC.bodyW k_pack_Writer_Id hP rfl fun hU => ?_
  generalize hQ : (fun (_ : V) (H' : HP) => H' = wH H t k (s ++ a)) = Q
  have happ : ∀ e : Bs, wH (H ++ [Blk.cell (.agg (bytesV a))]) t k e = wH H t k e ++ [Blk.cell (.agg (bytesV a))] := fun e => wH_append ht hk
  have ht1 : t < (H ++ [Blk.cell (.agg (bytesV a))]).length := by rw [List.length_append]; omega
  have hk1 : k < (H ++ [Blk.cell (.agg (bytesV a))]).length := by rw [List.length_append]; omega
  have g1 := wH_t (k := k) (s := s) ht1
  have g2 := wH_k (s := s) hk1 hn
  have g3 := fun r => wH_s (s := s) ht1 hn r
  have g4 : (wH (H ++ [Blk.cell (.agg (bytesV a))]) t k s)[H.length]? = some (.cell (.agg (bytesV a))) := by rw [wH_ne (by omega) (by omega)]; simp
  have hset := wH_set (H := H ++ [Blk.cell (.agg (bytesV a))]) (s := s) (e := s ++ a) (n := s.length + 32) hn (by simp [ha])
  simp [c_pack_Writer_Id, r_pack_Writer_Id, idV, wH_length]
  rw [← happ]
  generalize hX : wH (H ++ [Blk.cell (.agg (bytesV a))]) t k s = X at g1 g2 g3 g4 hset
  simp [g1, g2, g3, ha]
  have htk : (bytesV a).take 32 = bytesV a := List.take_of_length_le (by simp [ha])
  refine ⟨bytesV_shape a, by omega, wH H t k (s ++ a), ⟨[Blk.cell (.agg (bytesV a))], ?_⟩, wH_length, ?_, by rw [← hQ]⟩
  · rw [← happ, ← hset, htk, bytesV_append]
  · rw [← wH_set (s := s) (e := s ++ a) hn rfl]
    exact underH_set (underH_setRow hU) (by simp [V.under, V.underL, hk])

theorem f_Writer_Ids (ht : t < H.length) (hk : k < H.length) (hn : t ≠ k) (l : List Bs) (hl : l.length < 1100000) (h : ∀ a ∈ l, a.length = 32) (hs : s.length < 1000000000) :
    TC Pg n_pack_Writer_Ids [.ptr t [], .sl 32 (l.map idV) .view] (wH H t k s) fun _ H' => H' = wH H t k (s ++ (numB l.length ++ l.flatten)) := by
  refine TC.bodyW k_pack_Writer_Ids hP rfl fun hU => ?_
  generalize hQ : (fun (_ : V) (H' : HP) => H' = wH H t k (s ++ (numB l.length ++ l.flatten))) = Q
  simp [c_pack_Writer_Ids, r_pack_Writer_Ids]
  have hb := numB_le l.length (by omega)
  refine CallB.w (f_Writer_Num ht hk hn l.length (by omega) (by omega)) ?_
  rintro _ _ ⟨rfl, rfl⟩
  simp
  have hfl := flat_len l h
  refine AW_wloopW (fun j : Nat => [(0, .ptr t []), (10, .sl 32 (l.map idV) .view), (11, .int .i64 l.length), (12, .int .i64 j)]) (fun j => wH H t k (s ++ numB l.length ++ (l.take j).flatten)) (fun j => j ≤ l.length) (fun j => l.length - j) 0 (Nat.zero_le _) (Weak.of_eq (by simp) (by simp)) ?_
  intro j hj
  rcases Nat.lt_or_ge j l.length with h' | h'
  · have hk1 := i64_succ j (by omega)
    obtain ⟨x, hx, hta, hm⟩ := at_k h'
    have hfj := flat_len (l.take j) fun a ha => h a (List.mem_of_mem_take ha)
    have hlj : (l.take j).length ≤ l.length := by rw [List.length_take]; omega
    have ht1 : t < (H ++ [Blk.cell (idV x)]).length := by rw [List.length_append]; omega
    have hk1' : k < (H ++ [Blk.cell (idV x)]).length := by rw [List.length_append]; omega
    have g4 : ∀ e : Bs, (wH H t k e ++ [Blk.cell (idV x)])[H.length]? = some (.cell (idV x)) := fun e => by rw [List.getElem?_append_right (by rw [wH_length]; exact Nat.le_refl _), wH_length, Nat.sub_self]; rfl
    have hsz := id_shape (h x hm)
    simp [h', hx, wH_length]
    rw [hsz]
    refine ⟨rfl, rfl, rfl, ?_⟩
    rw [← wH_append ht hk]
    refine CallB.w (f_Writer_Id (s := s ++ (numB l.length ++ (l.take j).flatten)) ht1 hk1' hn x (h x hm) (by rw [List.length_append, List.length_append]; omega)) ?_
    rintro _ _ rfl
    simp [hk1]
    refine ⟨j + 1, h', by omega, ?_⟩
    rw [wH_append ht hk, hta]
    have hUj : underH H.length (wH H t k (s ++ (numB l.length ++ (l.take j ++ [x]).flatten))) = true := by
      rw [← wH_set (s := s) hn rfl]
      exact underH_set (underH_setRow hU) (by simp [V.under, V.underL, hk])
    refine Weak.trans (Weak.cut (H := wH H t k (s ++ (numB l.length ++ ((l.take j).flatten ++ x)))) (by rw [wH_length]; exact Nat.le_refl _) (by simp [wH_length, V.under, ht]) (by rw [wH_length]; simpa using hUj)) (Weak.of_eq (by simp) (by simp))
  · have : j = l.length := by omega
    subst this
    simp
    refine wH_done (e := s ++ (numB l.length ++ l.flatten)) hU ht hk hn ?_ (by rw [← hQ])
    simp
end

/-- A text with its length ahead. -/
def textB (x : Bs) : Bs := numB x.length ++ x

theorem numB_pos (v : Nat) : 1 ≤ (numB v).length := by rw [numB]; split <;> simp
theorem texts_length (l : List Bs) : l.length ≤ (l.flatMap textB).length := by
  induction l with
  | nil => exact Nat.le_refl _
  | cons a l ih =>
    have := numB_pos a.length
    rw [List.flatMap_cons, List.length_append, List.length_cons, textB, List.length_append]
    omega

section
variable {H : HP} {t k : Nat} {s : Bs}
theorem f_Writer_Texts (ht : t < H.length) (hk : k < H.length) (hn : t ≠ k) (l : List Bs) (hs : s.length + (numB l.length ++ l.flatMap textB).length < 1073730000) :
    TC Pg n_pack_Writer_Texts [.ptr t [], .sl 1 (l.map strV) .view] (wH H t k s) fun _ H' => H' = wH H t k (s ++ (numB l.length ++ l.flatMap textB)) := by
  refine TC.bodyW k_pack_Writer_Texts hP rfl fun hU => ?_
  generalize hQ : (fun (_ : V) (H' : HP) => H' = wH H t k (s ++ (numB l.length ++ l.flatMap textB))) = Q
  simp [c_pack_Writer_Texts, r_pack_Writer_Texts]
  have hll := texts_length l
  rw [List.length_append] at hs
  refine CallB.w (f_Writer_Num ht hk hn l.length (by omega) (by omega)) ?_
  rintro _ _ ⟨rfl, rfl⟩
  simp
  refine AW_wloop (fun j : Nat => [(0, .ptr t []), (10, .sl 1 (l.map strV) .view), (11, .int .i64 l.length), (12, .int .i64 j)]) (fun j => wH H t k (s ++ numB l.length ++ (l.take j).flatMap textB)) (fun j => j ≤ l.length) (fun j => l.length - j) 0 (Nat.zero_le _) (Weak.of_eq (by simp) (by simp)) ?_
  intro j hj
  rcases Nat.lt_or_ge j l.length with h' | h'
  · have hk1 := i64_succ j (by omega)
    obtain ⟨x, hx, hta, hm⟩ := at_k h'
    have hle := flatMap_take_le textB l (j + 1)
    rw [hta, List.flatMap_append, List.length_append] at hle
    simp only [List.flatMap_cons, List.flatMap_nil, List.append_nil, textB, List.length_append] at hle
    simp [h', hx, strV]
    refine CallB.w (f_Writer_Text ht hk hn x (by simp only [List.length_append]; omega)) ?_
    rintro _ _ rfl
    simp [hk1]
    refine ⟨j + 1, h', by omega, by omega, ?_⟩
    rw [hta]
    simp [textB]
  · have : j = l.length := by omega
    subst this
    simp
    refine wH_done (e := s ++ (numB l.length ++ l.flatMap textB)) hU ht hk hn ?_ (by rw [← hQ])
    simp
end
end Go.Abs
end

section
namespace Go.Abs
open Go
set_option maxRecDepth 20000

theorem f_ref05_Num : ∀ (v : Nat), v ≤ 4611686018427387904 → TCp Pg n_ref05_Num [.int .i64 v] (.str (numB v)) := by
  intro v
  induction v using Nat.strongRecOn with
  | _ v ih =>
    intro hv
    refine TCp.body k_ref05_Num hP rfl rfl rfl ?_
    rcases Nat.lt_or_ge v 128 with h | h
    · have h3 : (v : Int) < 128 := by omega
      have hnb : numB v = [b8 v] := by rw [numB]; simp [h]
      simp [c_ref05_Num, r_ref05_Num, h3, hnb]
    · have h3 : ¬ (v : Int) < 128 := by omega
      have hnb : numB v = b8 ((v % 128 + 128 : Nat) : Int) :: numB (v / 128) := by rw [numB, if_neg (by omega)]
      have e1 : IntKind.i64.wrap ((v : Int) % 128 + 128) = ((v % 128 + 128 : Nat) : Int) := by rw [wrap_i64 (by omega) (by omega)]; omega
      have e2 : IntKind.i64.wrap ((v : Int) / 128) = ((v / 128 : Nat) : Int) := by rw [wrap_i64 (by omega) (by omega)]; omega
      have hl := numB_le (v / 128) (by omega)
      rw [hnb]
      simp [c_ref05_Num, r_ref05_Num, h3, e2]
      refine CallQ.of (ih (v / 128) (by omega) (by omega)) ?_
      simp
      refine ⟨by omega, ?_⟩
      have e3 : (v : Int).tmod 128 = (v : Int) % 128 := Int.tmod_eq_emod_of_nonneg (by omega)
      rw [e3, e1]
      rfl

theorem f_ref05_Text (x : Bs) (h : x.length < 1073740000) : TCp Pg n_ref05_Text [.str x] (.str (textB x)) := by
  refine TCp.body k_ref05_Text hP rfl rfl rfl ?_
  simp [c_ref05_Text, r_ref05_Text]
  refine CallB.p (f_ref05_Num x.length (by omega)) ?_
  have hl := numB_le x.length (by omega)
  simp [textB]
  omega

theorem f_ref05_Ids (l : List Bs) (hl : l.length < 1100000) (h : ∀ a ∈ l, a.length = 32) : TCp Pg n_ref05_Ids [.sl 32 (l.map idV) .view] (.str (numB l.length ++ l.flatten)) := by
  refine TCp.body k_ref05_Ids hP rfl (by simp) rfl ?_
  simp [c_ref05_Ids, r_ref05_Ids]
  refine CallB.p (f_ref05_Num l.length (by omega)) ?_
  simp
  refine CallB.p (f_ref03_All l hl h) ?_
  have hb := numB_le l.length (by omega)
  have hf := flat_len l h
  simp
  simp at hf
  omega

theorem f_ref05_Texts (l : List Bs) (hs : (numB l.length ++ l.flatMap textB).length < 1073730000) : TCp Pg n_ref05_Texts [.sl 1 (l.map strV) .view] (.str (numB l.length ++ l.flatMap textB)) := by
  refine TCp.body k_ref05_Texts hP rfl (by simp) rfl ?_
  have hll := texts_length l
  rw [List.length_append] at hs
  simp [c_ref05_Texts, r_ref05_Texts]
  refine CallB.p (f_ref05_Num l.length (by omega)) ?_
  simp
  refine AW_wloop (fun j : Nat => [(0, .sl 1 (l.map strV) .view), (3, .str (numB l.length ++ (l.take j).flatMap textB)), (4, .int .i64 j)]) (fun j => []) (fun j => j ≤ l.length) (fun j => l.length - j) 0 (Nat.zero_le _) (Weak.of_eq (by simp) (by simp)) ?_
  intro j hj
  rcases Nat.lt_or_ge j l.length with h' | h'
  · have hk1 := i64_succ j (by omega)
    obtain ⟨x, hx, hta, hm⟩ := at_k h'
    have hle := flatMap_take_le textB l (j + 1)
    rw [hta, List.flatMap_append, List.length_append] at hle
    have hx1 : ([x].flatMap textB).length = (textB x).length := by simp
    have hx2 : x.length ≤ (textB x).length := by rw [textB, List.length_append]; omega
    simp [h', hx, strV]
    refine CallB.p (f_ref05_Text x (by omega)) ?_
    generalize hT : (l.take j).flatMap textB = T at *
    simp [hk1]
    refine ⟨by omega, j + 1, h', by omega, ?_, by omega⟩
    rw [hta, List.flatMap_append, hT]
    simp
  · have : j = l.length := by omega
    subst this
    simp
end Go.Abs
end

section
namespace Go.Abs
open Go
set_option maxRecDepth 20000

/-- An operation's rows are short, its key has 32 bytes. -/
structure POp.Ok (o : POp) : Prop where
  key : o.key.length = 32
  old : o.old.length < 1100000
  new : o.new.length < 1100000
  path : o.path.length < 1100000
  dest : o.dest.length < 1100000
  olds : ∀ s ∈ o.old, s.length < 1100000
  news : ∀ s ∈ o.new, s.length < 1100000

def sameOp (a b : POp) : Bool := decide (a.kind = b.kind) && decide (a.path = b.path) && decide (a.dest = b.dest) && decide (a.key = b.key) && decide (a.depth = b.depth) && (decide (a.at_ = b.at_) && decide (a.old = b.old) && decide (a.new = b.new))

theorem f_op_Same (a b : POp) (ha : a.Ok) (hb : b.Ok) : TCp Pg n_op_Same [popV a, popV b] (.bool (sameOp a b)) := by
  refine TCp.body k_op_Same hP rfl (by simp) rfl ?_
  have s1 := id_shape ha.key
  have s2 := id_shape hb.key
  have f1 := id_fits ha.key
  have f2 := id_fits hb.key
  simp [c_op_Same, r_op_Same, popV, s1, s2, f1, f2, id_eq]
  refine CallG.of (fun h => ⟨h, f_op_Hunk a⟩) ?_
  simp [s2]
  refine CallG.of (fun h => ⟨h, f_op_Hunk b⟩) ?_
  simp [hunkV]
  refine CallG.of (r := .bool _) (fun h => ⟨h, f_hunk_Same a b ha.old ha.new⟩) ?_
  simp [sameOp]

def zero32 : Bs := List.replicate 32 0
def bare (o : POp) : POp :=
  { kind := o.kind, path := o.path, dest := if o.kind = 4 then o.dest else [], at_ := if o.kind = 3 then o.at_ else 0, old := if o.kind = 3 ∨ o.kind = 2 then o.old else [], new := if o.kind = 3 then o.new else [],
    key := if o.kind = 5 ∨ o.kind = 6 then o.key else zero32, depth := if o.kind = 5 then o.depth else 0 }

set_option maxHeartbeats 4000000 in
theorem f_op_bare (o : POp) (ho : o.Ok) : TCp Pg n_op_bare [popV o] (popV (bare o)) := by
  refine TCp.bodyV k_op_bare hP rfl (by simp) (by simp) ?_
  obtain ⟨kind, path, dest, at_, old, new, key, depth⟩ := o
  have s1 := id_shape ho.key
  simp only at s1
  have hz : idV zero32 = .agg (List.replicate 32 (.int .u8 0)) := rfl
  by_cases h3 : kind = 3
  · subst h3
    simp [c_op_bare, r_op_bare, popV, s1, bare, hz]
  by_cases h2 : kind = 2
  · subst h2
    simp [c_op_bare, r_op_bare, popV, s1, bare, hz]
  by_cases h4 : kind = 4
  · subst h4
    simp [c_op_bare, r_op_bare, popV, s1, bare, hz]
  by_cases h5 : kind = 5
  · subst h5
    simp [c_op_bare, r_op_bare, popV, s1, bare]
  by_cases h6 : kind = 6
  · subst h6
    simp [c_op_bare, r_op_bare, popV, s1, bare]
  simp [c_op_bare, r_op_bare, popV, s1, bare, hz, h2, h3, h4, h5, h6]
end Go.Abs
end

section
namespace Go.Proofs
open Go.Shelf
def Tryz.lays143_ren : Go.Shelf.Ren := ⟨fun | 143 => 169 | 219 => 177 | 217 => 181 | 225 => 182 | 224 => 183 | 267 => 184 | 266 => 185 | 314 => 186 | n => n, fun | 9 => 9 | 3 => 3 | 4 => 4 | 5 => 5 | 46 => 106 | 146 => 218 | 51 => 139 | n => n, fun | 1 => 0 | n => n⟩
theorem Tryz.lays143 : Go.Proofs.Lays.n143 Tryz.prog Tryz.lays143_ren := {
  mixed := by kernel_rfl
  f143 := Tryz.func169.trans (congrArg some (by kernel_rfl))
  f217 := Tryz.func181.trans (congrArg some (by kernel_rfl))
  f219 := Tryz.func177.trans (congrArg some (by kernel_rfl))
  f224 := Tryz.func183.trans (congrArg some (by kernel_rfl))
  f225 := Tryz.func182.trans (congrArg some (by kernel_rfl))
  f266 := Tryz.func185.trans (congrArg some (by kernel_rfl))
  f267 := Tryz.func184.trans (congrArg some (by kernel_rfl))
  f314 := Tryz.func186.trans (congrArg some (by kernel_rfl))
  t3 := Tryz.underlying3
  a3 := Tryz.isAgg3
  z3 := Tryz.sizeOf3
  v3 := Tryz.zeroValue3
  t4 := Tryz.underlying4
  a4 := Tryz.isAgg4
  z4 := Tryz.sizeOf4
  v4 := Tryz.zeroValue4
  t5 := Tryz.underlying5
  a5 := Tryz.isAgg5
  z5 := Tryz.sizeOf5
  v5 := Tryz.zeroValue5
  t9 := Tryz.underlying9
  a9 := Tryz.isAgg9
  z9 := Tryz.sizeOf9
  v9 := Tryz.zeroValue9
  t46 := Tryz.underlying106
  a46 := Tryz.isAgg106
  z46 := Tryz.sizeOf106
  v46 := Tryz.zeroValue106
  t51 := Tryz.underlying139
  a51 := Tryz.isAgg139
  z51 := Tryz.sizeOf139
  v51 := Tryz.zeroValue139
  t146 := Tryz.underlying218
  a146 := Tryz.isAgg218
  z146 := Tryz.sizeOf218
  v146 := Tryz.zeroValue218
  g1 := by kernel_rfl }
end Go.Proofs
end

section
namespace Go.Abs
open Go
set_option maxRecDepth 20000

def letters : Bs := [97, 98, 99, 100, 101, 102, 103, 104, 105, 106, 107, 108, 109, 110, 111, 112, 113, 114, 115, 116, 117, 118, 119, 120, 121, 122, 48, 49, 50, 51, 52, 53, 54, 55, 56, 57, 46, 95, 45]
def partOk (s : Bs) : Bool := !decide (s = []) && !decide (s = [46]) && !decide (s = [46, 46]) && s.all letters.contains
def parts : Bs → List Bs
  | [] => [[]]
  | b :: r => if b = 47 then [] :: parts r else match parts r with
    | [] => [[b]]
    | p :: ps => (b :: p) :: ps
def pathRight (s : Bs) : Bool := decide (s.length ≤ 200) && (parts s).all partOk && decide ((parts s).length ≤ 16)

theorem letters_all : ((List.range 256).all fun n => ((decide (97 ≤ n) && decide (n ≤ 122)) || (decide (48 ≤ n) && decide (n ≤ 57)) || decide (n = 46) || decide (n = 95) || decide (n = 45)) == letters.contains (UInt8.ofNat n)) = true := by kernel_rfl
theorem letters_nat (n : Fin 256) : ((decide (97 ≤ n.val) && decide (n.val ≤ 122)) || (decide (48 ≤ n.val) && decide (n.val ≤ 57)) || decide (n.val = 46) || decide (n.val = 95) || decide (n.val = 45)) = letters.contains (UInt8.ofNat n.val) :=
  beq_iff_eq.1 (List.all_eq_true.1 letters_all n.val (List.mem_range.2 n.isLt))
theorem letters_iff (b : UInt8) : ((decide ((97 : Int) ≤ (b.toNat : Int)) && decide ((b.toNat : Int) ≤ 122)) || (decide ((48 : Int) ≤ (b.toNat : Int)) && decide ((b.toNat : Int) ≤ 57)) || decide ((b.toNat : Int) = 46) || decide ((b.toNat : Int) = 95) || decide ((b.toNat : Int) = 45)) = letters.contains b := by
  have h := letters_nat ⟨b.toNat, b.toNat_lt⟩
  rw [show UInt8.ofNat (⟨b.toNat, b.toNat_lt⟩ : Fin 256).val = b by simp] at h
  rw [← h]
  have e1 : ((97 : Int) ≤ (b.toNat : Int)) ↔ 97 ≤ b.toNat := by omega
  have e2 : ((b.toNat : Int) ≤ 122) ↔ b.toNat ≤ 122 := by omega
  have e3 : ((48 : Int) ≤ (b.toNat : Int)) ↔ 48 ≤ b.toNat := by omega
  have e4 : ((b.toNat : Int) ≤ 57) ↔ b.toNat ≤ 57 := by omega
  have e5 : ((b.toNat : Int) = 46) ↔ b.toNat = 46 := by omega
  have e6 : ((b.toNat : Int) = 95) ↔ b.toNat = 95 := by omega
  have e7 : ((b.toNat : Int) = 45) ↔ b.toNat = 45 := by omega
  simp only [e1, e2, e3, e4, e5, e6, e7]

theorem f_path_part (s : Bs) (hs : s.length < 1073741824) : TCp Pg n_path_part [.str s] (.bool (partOk s)) := by
  refine TCp.body k_path_part hP rfl rfl rfl ?_
  by_cases h1 : s = []
  · subst h1; simp [c_path_part, r_path_part, partOk]
  by_cases h2 : s = [46]
  · subst h2; simp [c_path_part, r_path_part, partOk]
  by_cases h3 : s = [46, 46]
  · subst h3; simp [c_path_part, r_path_part, partOk]
  simp [c_path_part, r_path_part, h1, h2, h3]
  refine AW_wloop (fun j : Nat => [(0, .str s), (16, .int .i64 s.length), (17, .int .i64 j)]) (fun _ => []) (fun j => j ≤ s.length ∧ (s.take j).all letters.contains = true) (fun j => s.length - j) 0 ⟨Nat.zero_le _, rfl⟩ (Weak.of_eq (by simp) rfl) ?_
  rintro j ⟨hj, hno⟩
  rcases Nat.lt_or_ge j s.length with h' | h'
  · have hk1 := i64_succ j (by omega)
    obtain ⟨x, hx, hta, hm⟩ := at_k h'
    have hxl := letters_iff x
    simp [h', hx, hk1, byteV]
    refine ⟨by omega, by omega, by omega, by omega, by omega, fun q => ?_, fun q1 q2 q3 q4 q5 => ?_⟩
    · have hl : letters.contains x = true := by
        rw [← hxl]
        simp only [Bool.or_eq_true, Bool.and_eq_true, decide_eq_true_eq]
        exact q
      have hall : (s.take (j + 1)).all letters.contains = true := by rw [hta, List.all_append, hno]; simpa using hl
      exact ⟨j + 1, ⟨h', by simpa using hall⟩, by omega, by omega⟩
    · have hl : letters.contains x = false := by
        rw [← hxl]
        simp only [Bool.or_eq_false_iff, Bool.and_eq_false_iff, decide_eq_false_iff_not]
        omega
      have : s.all letters.contains = false := List.all_eq_false.2 ⟨x, hm, by rw [hl]; simp⟩
      simp only [partOk, this, Bool.and_false]
  · have : j = s.length := by omega
    subst this
    rw [List.take_length] at hno
    simp [partOk, h1, h2, h3]
    simpa using hno

theorem f_ref10_letter (b : UInt8) : TCp Pg n_ref10_letter [.int .u8 b.toNat] (.bool (letters.contains b)) := by
  refine TCp.body k_ref10_letter hP rfl rfl rfl ?_
  simp [c_ref10_letter, r_ref10_letter]
  refine AW_wloop (fun j : Nat => [(0, .int .u8 b.toNat), (3, .str letters), (4, .int .i64 j)]) (fun _ => []) (fun j => j ≤ letters.length ∧ (letters.take j).contains b = false) (fun j => letters.length - j) 0 ⟨Nat.zero_le _, rfl⟩ (Weak.of_eq (by rfl) rfl) ?_
  rintro j ⟨hj, hno⟩
  have hll : letters.length = 39 := rfl
  generalize letters = L at *
  rcases Nat.lt_or_ge j L.length with h' | h'
  · have hk1 := i64_succ j (by omega)
    obtain ⟨x, hx, hta, hm⟩ := at_k h'
    simp [h', hx, hk1, byteV]
    by_cases e : x = b
    · subst e
      exact ⟨fun _ => hm, fun q => (q rfl).elim⟩
    · have e1 : ¬ (x.toNat : Int) = b.toNat := fun q => e (UInt8.toNat.inj (by omega))
      have hc : (L.take (j + 1)).contains b = false := by rw [hta, List.contains_append, hno]; simp [Ne.symm e]
      exact ⟨fun q => (e1 q).elim, fun _ => ⟨j + 1, ⟨h', by simpa using hc⟩, by omega, by omega⟩⟩
  · have : j = L.length := by omega
    subst this
    rw [List.take_length] at hno
    simp
    simpa using hno

theorem f_ref10_Part (s : Bs) (hs : s.length < 1073741824) : TCp Pg n_ref10_Part [.str s] (.bool (partOk s)) := by
  refine TCp.body k_ref10_Part hP rfl rfl rfl ?_
  by_cases h1 : s = []
  · subst h1; simp [c_ref10_Part, r_ref10_Part, partOk]
  by_cases h2 : s = [46]
  · subst h2; simp [c_ref10_Part, r_ref10_Part, partOk]
  by_cases h3 : s = [46, 46]
  · subst h3; simp [c_ref10_Part, r_ref10_Part, partOk]
  simp [c_ref10_Part, r_ref10_Part, h1, h2, h3]
  refine AW_wloop (fun j : Nat => [(0, .str s), (3, .int .i64 j)]) (fun _ => []) (fun j => j ≤ s.length ∧ (s.take j).all letters.contains = true) (fun j => s.length - j) 0 ⟨Nat.zero_le _, rfl⟩ (Weak.of_eq (by simp) rfl) ?_
  rintro j ⟨hj, hno⟩
  rcases Nat.lt_or_ge j s.length with h' | h'
  · have hk1 := i64_succ j (by omega)
    obtain ⟨x, hx, hta, hm⟩ := at_k h'
    simp [h', hx, byteV]
    refine CallB.p (f_ref10_letter x) ?_
    cases hl : letters.contains x with
    | true =>
      simp [hk1]
      have hall : (s.take (j + 1)).all letters.contains = true := by rw [hta, List.all_append, hno]; simpa using hl
      exact ⟨j + 1, ⟨h', by simpa using hall⟩, by omega, by omega⟩
    | false =>
      have : s.all letters.contains = false := List.all_eq_false.2 ⟨x, hm, by rw [hl]; simp⟩
      simp [partOk, this]
  · have : j = s.length := by omega
    subst this
    rw [List.take_length] at hno
    simp [partOk, h1, h2, h3]
    simpa using hno

/-- What stands ahead of the first slash, and what behind it. -/
theorem parts_append (a s : Bs) (h : ∀ x ∈ a, x ≠ 47) : parts (a ++ 47 :: s) = a :: parts s := by
  induction a with
  | nil => simp [parts]
  | cons b a ih =>
    have hb : b ≠ 47 := h b (by simp)
    simp [parts, hb, ih fun x hx => h x (by simp [hx])]
theorem parts_last (a : Bs) (h : ∀ x ∈ a, x ≠ 47) : parts a = [a] := by
  induction a with
  | nil => simp [parts]
  | cons b a ih =>
    have hb : b ≠ 47 := h b (by simp)
    simp [parts, hb, ih fun x hx => h x (by simp [hx])]
theorem parts_length (s : Bs) : (parts s).length ≤ s.length + 1 := by
  induction s with
  | nil => simp [parts]
  | cons b s ih =>
    unfold parts
    split
    · simp; omega
    · split
      · simp
      · rename_i p ps e; rw [e] at ih; simp at *; omega

theorem parts_mem (s : Bs) : ∀ p ∈ parts s, p.length ≤ s.length := by
  induction s with
  | nil => simp [parts]
  | cons b s ih =>
    unfold parts
    split
    · intro p hp
      rcases List.mem_cons.1 hp with rfl | hp
      · simp
      · have := ih p hp; simp; omega
    · split
      · intro p hp; have : p = [b] := by simpa using hp
        subst this; simp
      · rename_i p ps e
        rw [e] at ih
        intro x hx
        rcases List.mem_cons.1 hx with rfl | hx
        · have := ih p (by simp); simp; omega
        · have := ih x (by simp [hx]); simp; omega

theorem f_ref10_Split (s : Bs) (hs : s.length < 1100000) : TCp Pg n_ref10_Split [.str s] (.sl 1 ((parts s).map strV) .view) := by
  refine TCp.bodyV k_ref10_Split hP rfl rfl (by simp) ?_
  simp [c_ref10_Split, r_ref10_Split]
  refine AW_wloop (fun q : Nat × Nat × List Bs => [(0, .str s), (3, .sl 1 (q.2.2.map strV) (.row 0)), (4, .int .i64 q.2.1), (5, .int .i64 q.1)]) (fun q => [.row q.2.2.length 1])
    (fun q => q.1 ≤ s.length ∧ q.2.1 ≤ q.1 ∧ q.2.2.length ≤ q.1 ∧ parts s = q.2.2 ++ parts (s.drop q.2.1) ∧ ∀ x ∈ (s.drop q.2.1).take (q.1 - q.2.1), x ≠ 47) (fun q => s.length - q.1) (0, 0, []) ⟨Nat.zero_le _, Nat.le_refl _, Nat.le_refl _, rfl, by simp⟩ (Weak.open 3 1 rfl) ?_
  rintro ⟨j, f, out⟩ ⟨hj, hf, ho, hp, hno⟩
  simp only at hj hf ho hp hno
  rcases Nat.lt_or_ge j s.length with h' | h'
  · have hk1 := i64_succ j (by omega)
    obtain ⟨x, hx, hta, hm⟩ := at_k h'
    have hdj : s.drop f = (s.drop f).take (j - f) ++ x :: s.drop (j + 1) := by
      have h1 : (s.drop f).drop (j - f) = x :: s.drop (j + 1) := by rw [List.drop_drop, show f + (j - f) = j by omega, List.drop_eq_getElem_cons h', hx]
      rw [← h1, List.take_append_drop]
    have hsl : (s.take j).drop f = (s.drop f).take (j - f) := by rw [List.drop_take]
    have hff : (f : Int) ≤ j := by omega
    have hjj : (j : Int) ≤ s.length := by omega
    simp [h', hx, hk1, byteV, hf, hj, hsl]
    refine ⟨fun q => ⟨by omega, j + 1, j + 1, out ++ [(s.drop f).take (j - f)], ⟨by omega, Nat.le_refl _, by simp; omega, ?_, by simp⟩, by omega, ⟨by simp [strV], by omega, by omega⟩, by simp⟩, fun q => ⟨j + 1, f, out, ⟨by omega, by omega, by omega, hp, ?_⟩, by omega, ⟨rfl, rfl, by omega⟩, rfl⟩⟩
    · have hx47 : x = 47 := UInt8.toNat.inj (by show x.toNat = 47; omega)
      subst hx47
      rw [hp, hdj, parts_append _ _ hno]
      rw [← hdj]
      simp
    · intro y hy
      have h2 : (s.drop f).take (j + 1 - f) = (s.drop f).take (j - f) ++ [x] := by
        have h3 : j - f < (s.drop f).length := by rw [List.length_drop]; omega
        rw [show j + 1 - f = (j - f) + 1 by omega, take_snoc _ _ h3]
        congr 2
        rw [List.getElem_drop, ← hx]
        congr 1
        omega
      rw [h2] at hy
      rcases List.mem_append.1 hy with hy | hy
      · exact hno y hy
      · have : y = x := by simpa using hy
        subst this
        rintro rfl
        exact q rfl
  · have : j = s.length := by omega
    subst this
    have hlast : parts (s.drop f) = [s.drop f] := parts_last _ fun x hx => hno x (by rw [List.take_of_length_le (by rw [List.length_drop]; exact Nat.le_refl _)]; exact hx)
    have he : out.map strV ++ [V.str (s.drop f)] = (parts s).map strV := by rw [hp, hlast]; simp [strV]
    simp [hf, he]
    omega

theorem f_ref10_Right (s : Bs) (hs : s.length < 1100000) : TCp Pg n_ref10_Right [.str s] (.bool (pathRight s)) := by
  refine TCp.body k_ref10_Right hP rfl rfl rfl ?_
  by_cases hl : s.length ≤ 200
  · have hli : ¬ (200 < (s.length : Int)) := by omega
    simp [c_ref10_Right, r_ref10_Right, hli]
    refine CallB.p (f_ref10_Split s hs) ?_
    simp
    have hpl := parts_length s
    have hpm := parts_mem s
    have hpr : pathRight s = ((parts s).all partOk && decide ((parts s).length ≤ 16)) := by simp [pathRight, hl]
    rw [hpr]
    generalize parts s = l at *
    refine AW_wloop (fun j : Nat => [(3, .sl 1 (l.map strV) .view), (4, .int .i64 j)]) (fun _ => []) (fun j => j ≤ l.length ∧ (l.take j).all partOk = true) (fun j => l.length - j) 0 ⟨Nat.zero_le _, rfl⟩ (Weak.of_eq (by simp) rfl) ?_
    rintro j ⟨hj, hno⟩
    rcases Nat.lt_or_ge j l.length with h' | h'
    · have hk1 := i64_succ j (by omega)
      obtain ⟨x, hx, hta, hm⟩ := at_k h'
      have hxl := hpm x hm
      simp [h', hx, strV]
      refine CallB.p (f_ref10_Part x (by omega)) ?_
      cases e : partOk x with
      | true =>
        simp [hk1]
        have hall : (l.take (j + 1)).all partOk = true := by rw [hta, List.all_append, hno]; simpa using e
        exact ⟨j + 1, ⟨h', by simpa using hall⟩, by omega, by omega⟩
      | false =>
        have : l.all partOk = false := List.all_eq_false.2 ⟨x, hm, by rw [e]; simp⟩
        simp [this]
    · have : j = l.length := by omega
      subst this
      rw [List.take_length] at hno
      simp [hno]
      omega
  · have hli : (200 < (s.length : Int)) := by omega
    simp [c_ref10_Right, r_ref10_Right, hli, pathRight, hl]
end Go.Abs
end
