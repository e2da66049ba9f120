/-
  The sum of a text by the document, whole: contracts. Tagged sums: contracts. The library's slices functions: contracts. Small functions: contracts. Lines and hunks: contracts.
  Conditions: those that stand ahead of each theorem; no more.
-/
import Derived.Test.YtblnejkfaniljaaGreatDoorT16
import Derived.Test.YtblnejkfaniljaaGreatDoorT23
import Derived.Test.YtblnejkfaniljaaGreatDoorT24

section
namespace Go.Abs
open Go
set_option maxRecDepth 20000

theorem f_ref02_Padded (s : Bs) (hs : s.length < 1073741824) : TCp Pg n_ref02_Padded [.str s] (.str (padded s)) := by
  refine TCp.body k_ref02_Padded hP rfl rfl rfl ?_
  simp [c_ref02_Padded, r_ref02_Padded]
  refine ⟨by omega, ?_⟩
  refine AW_wloop (fun k : Nat => [(0, .str s), (3, .str (s ++ [128] ++ List.replicate k 0))]) (fun _ => []) (fun k => k ≤ zeros s.length) (fun k => zeros s.length - k) 0 (Nat.zero_le _) (Weak.of_eq (by simp) rfl) ?_
  intro k hk
  have hz : zeros s.length < 64 := Nat.mod_lt _ (by decide)
  have e4 : IntKind.u64.wrap (s.length : Int) = s.length := wrap_u64 (by omega) (by omega)
  have e5 : IntKind.u64.wrap ((s.length : Int) * 8) = ((s.length * 8 : Nat) : Int) := by rw [wrap_u64 (by omega) (by omega)]; omega
  rcases Nat.lt_or_ge k (zeros s.length) with h | h
  · have hne : ¬ ((s.length : Int) + (k + 1)).tmod 64 = 56 := by
      rw [Int.tmod_eq_emod_of_nonneg (by omega)]
      unfold zeros at h
      omega
    simp [hne]
    refine ⟨by omega, k + 1, h, by omega, ?_⟩
    rw [List.replicate_succ']
  · have : k = zeros s.length := by omega
    subst this
    have hne : ((s.length : Int) + ((zeros s.length : Int) + 1)).tmod 64 = 56 := by
      rw [Int.tmod_eq_emod_of_nonneg (by omega)]
      unfold zeros at *
      omega
    simp [hne, e4, e5]
    refine CallB.p (f_ref01_Number (s.length * 8) (by omega)) ?_
    simp [padded, beLow_length]
    omega

theorem padded_length (s : Bs) : (padded s).length = 64 * ((s.length + 9 + zeros s.length) / 64) := by
  have : (padded s).length = s.length + 1 + zeros s.length + 8 := by simp [padded, beLow_length]; omega
  rw [this]
  unfold zeros
  omega

theorem f_ref02_Sum (s : Bs) (hs : s.length < 1073741000) : TCp Pg n_ref02_Sum [.str s] (idV (sha s)) := by
  refine TCp.body k_ref02_Sum hP rfl rfl (by simp) ?_
  simp [c_ref02_Sum, r_ref02_Sum]
  refine CallB.p f_ref02_Known ?_
  simp
  refine CallB.p (f_ref02_Padded s (by omega)) ?_
  simp
  have hpl := padded_length s
  have hp : (padded s).length < 1073741824 := by
    have hz : zeros s.length < 64 := Nat.mod_lt _ (by decide)
    omega
  unfold sha
  generalize padded s = p at hpl hp
  generalize hm : (s.length + 9 + zeros s.length) / 64 = m at hpl
  have hm' : p.length / 64 = m := by omega
  rw [hm']
  refine AW_wloopW (fun k : Nat => [(2, .ptr 0 []), (3, .sl 1 ((blocks h0 k p).l.map wV) .view), (4, .sl 1 (K64.map wV) .view), (5, .str p), (6, .int .i64 ((64 * k : Nat) : Int))]) (fun _ => [.cell (.agg (List.replicate 32 (.int .u8 0)))]) (fun k => k ≤ m) (fun k => m - k) 0 (Nat.zero_le _)
    ((Weak.view 3).trans (Weak.view_eq 4 (by simp [viewTM, blocks]))) ?_
  intro k hk
  rcases Nat.lt_or_ge k m with h | h
  · have e4 : IntKind.i64.wrap (64 * (k : Int) + 64) = ((64 * (k + 1) : Nat) : Int) := by rw [wrap_i64 (by omega) (by omega)]; omega
    have hkk : 64 * (k : Int) < p.length := by omega
    have hn : (64 * (k : Int)).toNat = 64 * k := by omega
    have hn4 : (64 * ((k : Int) + 1)).toNat = 64 * k + 64 := by omega
    have hsl : ((p.take (64 * k + 64)).drop (64 * k)) = (p.drop (64 * k)).take 64 := by rw [List.drop_take]; congr 1; omega
    simp [hkk, e4, hn, hn4, hsl]
    refine ⟨by omega, CallB.p (f_ref02_one _ _ (by rw [List.length_take, List.length_drop]; omega)) ?_⟩
    simp [e4]
    refine ⟨k + 1, h, by omega, Weak.of_eq ?_ rfl⟩
    rw [blocks_snoc]
    simp
  · have : k = m := by omega
    subst this
    have hkk : ¬ 64 * (k : Int) < p.length := by omega
    simp [hkk]
    refine CallB.p (f_ref01_Bytes _ (by simp [S8.l])) ?_
    have h32 := S8_bytes (blocks h0 k p)
    generalize (blocks h0 k p).l.flatMap be4 = b at h32
    simp
    refine AW_wloop (fun k : Nat => [(2, .ptr 0 []), (7, .ptr 1 []), (8, .str b), (9, .int .i64 k)]) (fun k => [.cell (.agg (List.replicate 32 (.int .u8 0))), .cell (.agg (bytesV (b.take k ++ List.replicate (32 - k) 0)))]) (fun k => k ≤ 32) (fun k => 32 - k) 0 (Nat.zero_le _) (Weak.of_eq (by simp) (by simp; rfl)) ?_
    intro k hk
    rcases Nat.lt_or_ge k 32 with h | h
    · have hk1 := i64_succ k (by omega)
      have hkk : ((k : Int) < 32) := by omega
      have hb : k < b.length := by omega
      have hl : (b.take k ++ List.replicate (32 - k) 0).length = 32 := by simp; omega
      have hset : (b.take k ++ List.replicate (32 - k) 0).set k b[k] = b.take (k + 1) ++ List.replicate (32 - (k + 1)) 0 := by
        rw [List.set_append_right _ _ (by rw [List.length_take]; omega), take_snoc _ _ hb, List.length_take, Nat.min_eq_left (Nat.le_of_lt hb), Nat.sub_self]
        obtain ⟨q, hq⟩ : ∃ q, 32 - k = q + 1 := ⟨31 - k, by omega⟩
        have hq' : 32 - (k + 1) = q := by omega
        rw [hq, hq', List.replicate_succ, List.set_cons_zero, List.append_assoc]
        rfl
      generalize b.take k ++ List.replicate (32 - k) 0 = L at hl hset
      have hg : (bytesV L)[k]? = some (byteV L[k]) := by simp [bytesV]; exact ⟨L[k], by simp⟩
      have hgd : b[k]?.getD 0 = b[k] := by rw [List.getElem?_eq_getElem hb]; rfl
      simp [hkk, hk1, h32, hl, hg, hgd, byteV]
      refine ⟨bytesV_shape L, k + 1, h, by omega, by omega, ?_⟩
      rw [← hset]
      simp [bytesV, byteV]
    · have : k = 32 := by omega
      subst this
      have ht : b.take 32 = b := List.take_of_length_le (by omega)
      simp [ht, bytesV_shapeL, h32, idV]
end Go.Abs
end

section
namespace Go.Abs
open Go
set_option maxRecDepth 20000

theorem at_k {α : Type} {l : List α} {k : Nat} (h : k < l.length) : ∃ x, l[k] = x ∧ l.take (k + 1) = l.take k ++ [x] ∧ x ∈ l := ⟨l[k], rfl, take_snoc l k h, List.getElem_mem h⟩

/-- A text with its length ahead. -/
def sized (s : Bs) : Bs := beLow s.length 8 ++ s
def tagText (name : Bs) (parts : List Bs) : Bs := [b8 name.length] ++ name ++ parts.flatMap sized
def tagOf (name : Bs) (parts : List Bs) : Bs := sha (tagText name parts)

theorem sha_length (s : Bs) : (sha s).length = 32 := S8_bytes _

theorem flatMap_take_le {α : Type} (f : α → Bs) (l : List α) (k : Nat) : ((l.take k).flatMap f).length ≤ (l.flatMap f).length := by
  have : l.flatMap f = (l.take k).flatMap f ++ (l.drop k).flatMap f := by rw [← List.flatMap_append, List.take_append_drop]
  rw [this, List.length_append]
  omega

theorem b8_nat (n : Nat) (h : n < 256) : V.int .u8 (n : Int) = byteV (b8 n) := by unfold byteV; rw [b8_toNat]; congr 1; omega

theorem bytes1 (n : Int) : [V.int .u8 (IntKind.u8.wrap n)] = bytesV [b8 n] := by rw [byteV_wrap]; rfl
theorem bytes2 (n : Int) (l : Bs) : V.int .u8 (IntKind.u8.wrap n) :: bytesV l = bytesV (b8 n :: l) := by rw [byteV_wrap]; rfl
@[simp] theorem wrap_isByte (n : Int) : (V.int .u8 (IntKind.u8.wrap n)).isByte = true := by
  rw [byteV_wrap]; exact bytesV_isByte [b8 n] _ (by simp [bytesV])
@[simp] theorem wrap_byte (n : Int) : (V.int .u8 (IntKind.u8.wrap n)).byte = b8 n := by
  rw [byteV_wrap]; have := bytesV_byte [b8 n]; simpa [bytesV] using this
theorem tagText_snoc (name : Bs) (l : List Bs) (s : Bs) : tagText name (l ++ [s]) = tagText name l ++ (beLow s.length 8 ++ s) := by simp [tagText, sized]

theorem tagText_parts (name : Bs) (parts : List Bs) : parts.length ≤ (tagText name parts).length := by
  have h : ∀ l : List Bs, l.length ≤ (l.flatMap sized).length := by
    intro l
    induction l with
    | nil => exact Nat.le_refl _
    | cons a l ih =>
      have : (sized a).length = 8 + a.length := by rw [sized, List.length_append, beLow_length]
      rw [List.flatMap_cons, List.length_append, List.length_cons]
      omega
  simp only [tagText, List.length_append]
  have := h parts
  omega

theorem f_tag_Text (name : Bs) (parts : List Bs) (hn : name.length ≤ 255) (hT : (tagText name parts).length < 1073741824) : TCp Pg n_tag_Text [.str name, .sl 1 (parts.map strV) .view] (.tup [.str (tagText name parts), .int .i64 0]) := by
  refine TCp.body k_tag_Text hP rfl (by simp [V.under]) rfl ?_
  have hnn : ¬ (255 < (name.length : Int)) := by omega
  simp [c_tag_Text, r_tag_Text, hnn]
  refine ⟨by omega, ?_⟩
  refine AW_wloop (fun k : Nat => [(6, .sl 1 (bytesV (tagText name (parts.take k))) (.row 0)), (21, .sl 1 (parts.map strV) .view), (22, .int .i64 parts.length), (23, .int .i64 k)]) (fun k => [.row (tagText name (parts.take k)).length 1]) (fun k => k ≤ parts.length) (fun k => parts.length - k) 0 (Nat.zero_le _) (Weak.of_eq (by simp [tagText, bytes2]) (by simp [tagText]; omega)) ?_
  intro k hk
  have hpl := tagText_parts name parts
  rcases Nat.lt_or_ge k parts.length with h | h
  · have hk1 := i64_succ k (by omega)
    obtain ⟨x, hx, ht, hm⟩ := at_k h
    have hle := flatMap_take_le sized parts (k + 1)
    have hlen : (tagText name (parts.take (k + 1))).length ≤ (tagText name parts).length := by simp only [tagText, List.length_append]; omega
    rw [ht, tagText_snoc, List.length_append, List.length_append, beLow_length] at hlen
    have e4 : IntKind.u64.wrap (x.length : Int) = x.length := wrap_u64 (by omega) (by omega)
    generalize hT' : tagText name (parts.take k) = T at hlen
    simp [h, hx, strV, e4]
    refine CallB.p (f_word_Number x.length (by omega)) ?_
    simp [hk1, beLow_length]
    refine ⟨by omega, by omega, k + 1, h, by omega, ⟨?_, by omega⟩, ?_⟩
    · rw [ht, tagText_snoc, hT']
    · rw [ht, tagText_snoc, hT']; simp [beLow_length]
  · have : k = parts.length := by omega
    subst this
    simp
    exact bytesV_isByte _

theorem f_ref03_Text (name : Bs) (parts : List Bs) (hn : name.length ≤ 255) (hT : (tagText name parts).length < 1073741824) : TCp Pg n_ref03_Text [.str name, .sl 1 (parts.map strV) .view] (.str (tagText name parts)) := by
  refine TCp.body k_ref03_Text hP rfl (by simp [V.under]) rfl ?_
  simp [c_ref03_Text, r_ref03_Text]
  refine ⟨by omega, ?_⟩
  refine AW_wloop (fun k : Nat => [(1, .sl 1 (parts.map strV) .view), (5, .str (tagText name (parts.take k))), (6, .int .i64 k)]) (fun k => []) (fun k => k ≤ parts.length) (fun k => parts.length - k) 0 (Nat.zero_le _) (Weak.of_eq (by simp [tagText]) rfl) ?_
  intro k hk
  have hpl := tagText_parts name parts
  rcases Nat.lt_or_ge k parts.length with h | h
  · have hk1 := i64_succ k (by omega)
    obtain ⟨x, hx, ht, hm⟩ := at_k h
    have hle := flatMap_take_le sized parts (k + 1)
    have hlen : (tagText name (parts.take (k + 1))).length ≤ (tagText name parts).length := by simp only [tagText, List.length_append]; omega
    rw [ht, tagText_snoc, List.length_append, List.length_append, beLow_length] at hlen
    have e4 : IntKind.u64.wrap (x.length : Int) = x.length := wrap_u64 (by omega) (by omega)
    generalize hT' : tagText name (parts.take k) = T at hlen
    simp [h, hx, strV, e4]
    refine CallB.p (f_ref01_Number x.length (by omega)) ?_
    simp [h, hx, strV, hk1, beLow_length]
    refine ⟨by omega, by omega, k + 1, h, by omega, ?_, by omega⟩
    rw [ht, tagText_snoc, hT']
  · have : k = parts.length := by omega
    subst this
    simp

theorem f_tag_Of (name : Bs) (parts : List Bs) (hn : name.length ≤ 255) (hT : (tagText name parts).length < 1073741000) : TCp Pg n_tag_Of [.str name, .sl 1 (parts.map strV) .view] (.tup [idV (tagOf name parts), .int .i64 0]) := by
  refine TCp.body k_tag_Of hP rfl (by simp [V.under]) (by simp [V.under, V.underL]) ?_
  simp [c_tag_Of, r_tag_Of]
  refine CallB.p (f_tag_Text name parts hn (by omega)) ?_
  simp
  refine CallB.p (f_sha_Sum _ hT) ?_
  have h32 : (tagOf name parts).length = 32 := sha_length _
  have he : sha (tagText name parts) = tagOf name parts := rfl
  rw [he]
  generalize tagOf name parts = b at h32
  simp [idV, bytesV_shapeL, h32]

theorem f_ref03_Of (name : Bs) (parts : List Bs) (hn : name.length ≤ 255) (hT : (tagText name parts).length < 1073741000) : TCp Pg n_ref03_Of [.str name, .sl 1 (parts.map strV) .view] (idV (tagOf name parts)) := by
  refine TCp.body k_ref03_Of hP rfl (by simp [V.under]) (by simp) ?_
  simp [c_ref03_Of, r_ref03_Of]
  refine CallB.p (f_ref03_Text name parts hn (by omega)) ?_
  simp
  refine CallB.p (f_ref02_Sum _ hT) ?_
  have h32 : (tagOf name parts).length = 32 := sha_length _
  have he : sha (tagText name parts) = tagOf name parts := rfl
  rw [he]
  generalize tagOf name parts = b at h32
  simp [idV, bytesV_shapeL, h32]

theorem f_ref03_Bytes (a : Bs) (h : a.length = 32) : TCp Pg n_ref03_Bytes [idV a] (.str a) := by
  refine TCp.body k_ref03_Bytes hP rfl (by simp) rfl ?_
  simp [c_ref03_Bytes, r_ref03_Bytes]
  refine AW_wloop (fun k : Nat => [(1, .ptr 0 []), (3, .sl 1 (bytesV (a.take k)) (.row 1)), (4, .int .i64 k)]) (fun k => [.cell (idV a), .row k 1]) (fun k => k ≤ 32) (fun k => 32 - k) 0 (Nat.zero_le _) (Weak.trans (Weak.of_eq rfl (by rfl)) (Weak.open 3 1 rfl)) ?_
  intro k hk
  rcases Nat.lt_or_ge k 32 with h' | h'
  · have hk1 := i64_succ k (by omega)
    obtain ⟨x, hx, ht, hm⟩ := at_k (l := a) (k := k) (by omega)
    have hkk : ((k : Int) < 32) := by omega
    have hg : (bytesV a)[k]? = some (byteV x) := by rw [← hx]; simp [bytesV]; exact ⟨_, List.getElem?_eq_getElem (by omega), rfl⟩
    simp [hkk, hk1, idV, hg, h, byteV]
    refine ⟨bytesV_shape a, by omega, by omega, k + 1, h', by omega, ⟨?_, by omega⟩, by omega⟩
    rw [ht]
    simp [bytesV, byteV]
  · have : k = 32 := by omega
    subst this
    simp
    exact ⟨bytesV_isByte _, List.take_of_length_le (by omega)⟩

theorem flat_len (l : List Bs) (h : ∀ a ∈ l, a.length = 32) : l.flatten.length = 32 * l.length := by
  induction l with
  | nil => rfl
  | cons a l ih => rw [List.flatten_cons, List.length_append, h a (by simp), ih fun b hb => h b (by simp [hb]), List.length_cons]; omega

theorem f_ref03_All (l : List Bs) (hl : l.length < 1100000) (h : ∀ a ∈ l, a.length = 32) : TCp Pg n_ref03_All [.sl 32 (l.map idV) .view] (.str l.flatten) := by
  refine TCp.body k_ref03_All hP rfl (by simp) rfl ?_
  simp [c_ref03_All, r_ref03_All]
  refine AW_wloop (fun k : Nat => [(0, .sl 32 (l.map idV) .view), (3, .str (l.take k).flatten), (4, .int .i64 k)]) (fun k => []) (fun k => k ≤ l.length) (fun k => l.length - k) 0 (Nat.zero_le _) (Weak.of_eq (by simp) rfl) ?_
  intro k hk
  rcases Nat.lt_or_ge k l.length with h' | h'
  · have hk1 := i64_succ k (by omega)
    obtain ⟨x, hx, ht, hm⟩ := at_k h'
    simp [h', hx]
    refine ⟨by rw [id_shape (h x hm)]; rfl, CallB.p (f_ref03_Bytes x (h x hm)) ?_⟩
    have hfl := flat_len (l.take (k + 1)) fun a ha => h a (List.mem_of_mem_take ha)
    have hlk : (l.take (k + 1)).length ≤ l.length := by rw [List.length_take]; omega
    rw [ht, List.flatten_append, List.length_append] at hfl
    simp at hfl
    simp [hk1]
    refine ⟨by omega, k + 1, h', by omega, ?_, by omega⟩
    rw [ht]
    simp
  · have : k = l.length := by omega
    subst this
    simp
end Go.Abs
end

section
namespace Go.Abs
open Go
set_option maxRecDepth 20000

def idxOf {α : Type} (p : α → Bool) (l : List α) : Int := match l.findIdx? p with
  | some i => (i : Int)
  | none => -1

theorem idxOf_some {α : Type} {p : α → Bool} {l : List α} {j : Nat} (h : j < l.length) (hp : p l[j] = true) (hno : ∀ i, (h : i < l.length) → i < j → p l[i] = false) : idxOf p l = (j : Int) := by
  have : l.findIdx? p = some j := List.findIdx?_eq_some_iff_getElem.2 ⟨h, hp, fun i hi => by rw [hno i (by omega) hi]; simp⟩
  rw [idxOf, this]

theorem idxOf_none {α : Type} {p : α → Bool} {l : List α} (hno : ∀ i, (h : i < l.length) → p l[i] = false) : idxOf p l = -1 := by
  have : l.findIdx? p = none := List.findIdx?_eq_none_iff.2 fun x hx => by
    obtain ⟨i, hi, rfl⟩ := List.mem_iff_getElem.1 hx
    exact hno i hi
  rw [idxOf, this]

theorem idxOf_any {α : Type} (p : α → Bool) (l : List α) : decide (0 ≤ idxOf p l) = l.any p := by
  unfold idxOf
  cases h : l.findIdx? p with
  | some i =>
    obtain ⟨h1, h2, _⟩ := List.findIdx?_eq_some_iff_getElem.1 h
    have : l.any p = true := List.any_eq_true.2 ⟨l[i], List.getElem_mem h1, h2⟩
    rw [this]; simp
  | none =>
    have := List.findIdx?_eq_none_iff.1 h
    have : l.any p = false := List.any_eq_false.2 fun x hx => by rw [this x hx]; simp
    rw [this]; simp

theorem take_ne {α : Type} {a b : List α} {j : Nat} {x y : α} (h1 : a.take (j + 1) = a.take j ++ [x]) (h2 : b.take (j + 1) = b.take j ++ [y]) (e : ¬ x = y) : ¬ a = b := by
  rintro rfl
  rw [h1] at h2
  have := List.append_cancel_left h2
  exact e (List.cons.inj this).1

theorem idV_inj (a b : Bs) : idV a = idV b ↔ a = b := by
  constructor
  · intro h
    have h1 : bytesV a = bytesV b := by injection h
    rw [← bytesV_byte a, h1, bytesV_byte]
  · rintro rfl; rfl

theorem f_slices_IndexFunc_string (l : List Bs) (hl : l.length < 1073741824) {F : Nat} {cap : List V} (hcap : V.underL 0 cap = true) (_hv : V.vwL cap = cap) (p : Bs → Bool) (hf : ∀ x ∈ l, TCp Pg F ([strV x] ++ cap) (.bool (p x))) :
    TCp Pg n_slices_IndexFunc_string [.sl 1 (l.map strV) .view, .fn F [] cap] (.int .i64 (idxOf p l)) := by
  refine TCp.body k_slices_IndexFunc_string hP rfl (by simp [hcap]) rfl ?_
  simp [c_slices_IndexFunc_string, r_slices_IndexFunc_string]
  refine AW_wloop (fun j : Nat => [(0, .sl 1 (l.map strV) .view), (1, .fn F [] cap), (7, .int .i64 l.length), (8, .int .i64 j)]) (fun _ => []) (fun j => j ≤ l.length ∧ ∀ i, (h : i < l.length) → i < j → p l[i] = false) (fun j => l.length - j) 0 ⟨Nat.zero_le _, fun i _ h => by omega⟩ (Weak.of_eq (by simp) rfl) ?_
  rintro j ⟨hj, hno⟩
  rcases Nat.lt_or_ge j l.length with h' | h'
  · have hk1 := i64_succ j (by omega)
    have hx : l[j] = l[j] := rfl
    have hm : l[j] ∈ l := List.getElem_mem h'
    generalize hxx : l[j] = x at hm
    simp [h', hxx]
    refine CallB.p (hf x hm) ?_
    cases hp : p x with
    | true =>
      simp
      rw [idxOf_some h' (by rw [hxx]; exact hp) hno]
    | false =>
      simp [hk1]
      refine ⟨j + 1, ⟨h', fun i hi hlt => ?_⟩, by omega, by omega⟩
      rcases Nat.lt_or_ge i j with h1 | h1
      · exact hno i hi h1
      · have : i = j := by omega
        subst this
        rw [hxx]; exact hp
  · have : j = l.length := by omega
    subst this
    simp
    rw [idxOf_none fun i h => hno i h h]

theorem f_slices_ContainsFunc_string (l : List Bs) (hl : l.length < 1073741824) {F : Nat} {cap : List V} (hcap : V.underL 0 cap = true) (hv : V.vwL cap = cap) (p : Bs → Bool) (hf : ∀ x ∈ l, TCp Pg F ([strV x] ++ cap) (.bool (p x))) :
    TCp Pg n_slices_ContainsFunc_string [.sl 1 (l.map strV) .view, .fn F [] cap] (.bool (l.any p)) := by
  refine TCp.body k_slices_ContainsFunc_string hP rfl (by simp [hcap]) rfl ?_
  simp [c_slices_ContainsFunc_string, r_slices_ContainsFunc_string]
  refine CallB.p (f_slices_IndexFunc_string l hl hcap hv p hf) ?_
  simp [idxOf_any]

theorem f_slices_IndexFunc_Id (l : List Bs) (hl : l.length < 1073741824) {F : Nat} {cap : List V} (hcap : V.underL 0 cap = true) (_hv : V.vwL cap = cap) (p : Bs → Bool) (hs : ∀ x ∈ l, x.length = 32) (hf : ∀ x ∈ l, TCp Pg F ([idV x] ++ cap) (.bool (p x))) :
    TCp Pg n_slices_IndexFunc_Id [.sl 32 (l.map idV) .view, .fn F [] cap] (.int .i64 (idxOf p l)) := by
  refine TCp.body k_slices_IndexFunc_Id hP rfl (by simp [hcap]) rfl ?_
  simp [c_slices_IndexFunc_Id, r_slices_IndexFunc_Id]
  refine AW_wloop (fun j : Nat => [(0, .sl 32 (l.map idV) .view), (1, .fn F [] cap), (7, .int .i64 l.length), (8, .int .i64 j)]) (fun _ => []) (fun j => j ≤ l.length ∧ ∀ i, (h : i < l.length) → i < j → p l[i] = false) (fun j => l.length - j) 0 ⟨Nat.zero_le _, fun i _ h => by omega⟩ (Weak.of_eq (by simp) rfl) ?_
  rintro j ⟨hj, hno⟩
  rcases Nat.lt_or_ge j l.length with h' | h'
  · have hk1 := i64_succ j (by omega)
    have hx : l[j] = l[j] := rfl
    have hm : l[j] ∈ l := List.getElem_mem h'
    generalize hxx : l[j] = x at hm
    simp [h', hxx]
    have hsz := id_shape (hs x hm)
    rw [hsz]
    refine ⟨rfl, ?_⟩
    refine CallB.p (hf x hm) ?_
    cases hp : p x with
    | true =>
      simp
      rw [idxOf_some h' (by rw [hxx]; exact hp) hno]
    | false =>
      simp [hk1]
      refine ⟨j + 1, ⟨h', fun i hi hlt => ?_⟩, by omega, by omega⟩
      rcases Nat.lt_or_ge i j with h1 | h1
      · exact hno i hi h1
      · have : i = j := by omega
        subst this
        rw [hxx]; exact hp
  · have : j = l.length := by omega
    subst this
    simp
    rw [idxOf_none fun i h => hno i h h]

theorem f_slices_ContainsFunc_Id (l : List Bs) (hl : l.length < 1073741824) {F : Nat} {cap : List V} (hcap : V.underL 0 cap = true) (hv : V.vwL cap = cap) (p : Bs → Bool) (hs : ∀ x ∈ l, x.length = 32) (hf : ∀ x ∈ l, TCp Pg F ([idV x] ++ cap) (.bool (p x))) :
    TCp Pg n_slices_ContainsFunc_Id [.sl 32 (l.map idV) .view, .fn F [] cap] (.bool (l.any p)) := by
  refine TCp.body k_slices_ContainsFunc_Id hP rfl (by simp [hcap]) rfl ?_
  simp [c_slices_ContainsFunc_Id, r_slices_ContainsFunc_Id]
  refine CallB.p (f_slices_IndexFunc_Id l hl hcap hv p hs hf) ?_
  simp [idxOf_any]

theorem f_slices_Equal_string (a b : List Bs) (hl : a.length < 1073741824) : TCp Pg n_slices_Equal_string [.sl 1 (a.map strV) .view, .sl 1 (b.map strV) .view] (.bool (decide (a = b))) := by
  refine TCp.body k_slices_Equal_string hP rfl (by simp) rfl ?_
  by_cases hlen : a.length = b.length
  · have hli : (a.length : Int) = b.length := by omega
    simp [c_slices_Equal_string, r_slices_Equal_string, hlen]
    refine AW_wloop (fun j : Nat => [(0, .sl 1 (a.map strV) .view), (1, .sl 1 (b.map strV) .view), (12, .int .i64 b.length), (13, .int .i64 j)]) (fun _ => []) (fun j => j ≤ a.length ∧ a.take j = b.take j) (fun j => a.length - j) 0 ⟨Nat.zero_le _, by simp⟩ (Weak.of_eq (by simp) rfl) ?_
    rintro j ⟨hj, hno⟩
    rcases Nat.lt_or_ge j a.length with h' | h'
    · have hk1 := i64_succ j (by omega)
      have h'' : j < b.length := by omega
      obtain ⟨x, hx, hta, hxm⟩ := at_k h'
      obtain ⟨y, hy, htb, hym⟩ := at_k h''
      have hne := take_ne hta htb
      simp [h', h'', hx, hy, strV]
      by_cases e : x = y
      · subst e
        simp [hk1]
        exact ⟨j + 1, ⟨h', by rw [hta, htb, hno]⟩, by omega, by omega⟩
      · simp [e, hne e]
    · have : j = a.length := by omega
      subst this
      have hab : a = b := by
        have h1 : a.take a.length = a := List.take_length
        have h2 : b.take a.length = b := by rw [hlen]; exact List.take_length
        rw [← h1, hno, h2]
      simp [hab]
  · have hli : ¬ (a.length : Int) = b.length := by omega
    have hne : ¬ a = b := fun e => hlen (by rw [e])
    simp [c_slices_Equal_string, r_slices_Equal_string, hli, hne]

theorem fits_bytes (a : Bs) : TD.fitsAll (.int .u8) (bytesV a) = true := by
  induction a with
  | nil => rfl
  | cons b a ih => rw [← bytesV_cons]; simp only [TD.fitsAll, ih]; rfl
theorem id_fits {a : Bs} (h : a.length = 32) : TD.fits (.arr 32 (.int .u8)) (idV a) = true := by
  unfold idV
  simp [TD.fits, fits_bytes, h]
theorem bytes_eq : ∀ a b : Bs, V.eqL (bytesV a) (bytesV b) = decide (a = b)
  | [], [] => rfl
  | [], b :: r => by rw [← bytesV_cons]; simp [V.eqL]
  | a :: l, [] => by rw [← bytesV_cons]; simp [V.eqL]
  | a :: l, b :: r => by
    rw [← bytesV_cons, ← bytesV_cons]
    have h : (byteV a).eq (byteV b) = decide (a = b) := by
      show decide ((a.toNat : Int) = (b.toNat : Int)) = _
      have : ((a.toNat : Int) = (b.toNat : Int)) ↔ a = b := ⟨fun h => UInt8.toNat.inj (by omega), fun h => by rw [h]⟩
      simp [this]
    simp only [V.eqL, h, bytes_eq l r]
    by_cases e : a = b
    · by_cases e' : l = r <;> simp [e, e']
    · simp [e]
theorem id_eq (a b : Bs) : (idV a).eq (idV b) = decide (a = b) := by
  unfold idV
  simp only [V.eq, bytes_eq]

theorem pop_shape {o : POp} (h : o.key.length = 32) : (popV o).shape = .agg [.one, .one, .one, .one, .one, .one, .agg (List.replicate 32 .one), .one] := by
  have := id_shape h
  simp only [popV, V.shape, V.shapeL, this]
theorem patch_shape {o : Patch} (h : o.key.length = 32) : (patchV o).shape = .agg [.one, .agg (List.replicate 32 .one), .one, .one, .agg [.one, .one, .one, .one]] := by
  have := id_shape h
  simp only [patchV, sigV, V.shape, V.shapeL, this]

def eqBy {α : Type} (p : α → α → Bool) (a b : List α) : Bool := decide (a.length = b.length) && (a.zip b).all fun q => p q.1 q.2
theorem eqBy_true {α : Type} {p : α → α → Bool} {a b : List α} (hl : a.length = b.length) (h : ∀ i, (h : i < a.length) → (h' : i < b.length) → p a[i] b[i] = true) : eqBy p a b = true := by
  simp only [eqBy, hl, decide_true, Bool.true_and, List.all_eq_true]
  intro q hq
  obtain ⟨i, hi, rfl⟩ := List.mem_iff_getElem.1 hq
  rw [List.length_zip] at hi
  rw [List.getElem_zip]
  exact h i (by omega) (by omega)
theorem eqBy_false {α : Type} {p : α → α → Bool} {a b : List α} {i : Nat} (h : i < a.length) (h' : i < b.length) (hp : p a[i] b[i] = false) : eqBy p a b = false := by
  simp only [eqBy, Bool.and_eq_false_iff]
  refine .inr (List.all_eq_false.2 ⟨(a[i], b[i]), ?_, by simp [hp]⟩)
  exact List.mem_iff_getElem.2 ⟨i, by rw [List.length_zip]; omega, List.getElem_zip⟩

theorem f_slices_Equal_Id (a b : List Bs) (hl : a.length < 1073741824) (ha : ∀ x ∈ a, x.length = 32) (hb : ∀ x ∈ b, x.length = 32) : TCp Pg n_slices_Equal_Id [.sl 32 (a.map idV) .view, .sl 32 (b.map idV) .view] (.bool (decide (a = b))) := by
  refine TCp.body k_slices_Equal_Id hP rfl (by simp) rfl ?_
  by_cases hlen : a.length = b.length
  · have hli : (a.length : Int) = b.length := by omega
    simp [c_slices_Equal_Id, r_slices_Equal_Id, hlen]
    refine AW_wloop (fun j : Nat => [(0, .sl 32 (a.map idV) .view), (1, .sl 32 (b.map idV) .view), (12, .int .i64 b.length), (13, .int .i64 j)]) (fun _ => []) (fun j => j ≤ a.length ∧ a.take j = b.take j) (fun j => a.length - j) 0 ⟨Nat.zero_le _, by simp⟩ (Weak.of_eq (by simp) rfl) ?_
    rintro j ⟨hj, hno⟩
    rcases Nat.lt_or_ge j a.length with h' | h'
    · have hk1 := i64_succ j (by omega)
      have h'' : j < b.length := by omega
      obtain ⟨x, hx, hta, hxm⟩ := at_k h'
      obtain ⟨y, hy, htb, hym⟩ := at_k h''
      have hne := take_ne hta htb
      simp [h', h'', hx, hy, id_eq, id_fits (ha x hxm), id_fits (hb y hym)]
      rw [id_shape (ha x hxm), id_shape (hb y hym)]
      refine ⟨rfl, rfl, ?_⟩
      by_cases e : x = y
      · subst e
        simp [hk1]
        exact ⟨j + 1, ⟨h', by rw [hta, htb, hno]⟩, by omega, by omega⟩
      · simp [e, hne e]
    · have : j = a.length := by omega
      subst this
      have hab : a = b := by
        have h1 : a.take a.length = a := List.take_length
        have h2 : b.take a.length = b := by rw [hlen]; exact List.take_length
        rw [← h1, hno, h2]
      simp [hab]
  · have hli : ¬ (a.length : Int) = b.length := by omega
    have hne : ¬ a = b := fun e => hlen (by rw [e])
    simp [c_slices_Equal_Id, r_slices_Equal_Id, hli, hne]

theorem f_slices_EqualFunc_Op (a b : List POp) (hl : a.length < 1073741824) {F : Nat} (p : POp → POp → Bool) (ha : ∀ x ∈ a, x.key.length = 32) (hb : ∀ x ∈ b, x.key.length = 32) (hf : ∀ x ∈ a, ∀ y ∈ b, TCp Pg F [popV x, popV y] (.bool (p x y))) :
    TCp Pg n_slices_EqualFunc_Op [.sl 39 (a.map popV) .view, .sl 39 (b.map popV) .view, .fn F [] []] (.bool (eqBy p a b)) := by
  refine TCp.body k_slices_EqualFunc_Op hP rfl (by simp) rfl ?_
  by_cases hlen : a.length = b.length
  · have hli : (a.length : Int) = b.length := by omega
    simp [c_slices_EqualFunc_Op, r_slices_EqualFunc_Op, hlen]
    refine AW_wloopW (fun j : Nat => [(1, .sl 39 (b.map popV) .view), (2, .fn F [] []), (15, .sl 39 (a.map popV) .view), (16, .int .i64 b.length), (17, .int .i64 j)]) (fun _ => []) (fun j => j ≤ a.length ∧ ∀ i, (h : i < a.length) → (h' : i < b.length) → i < j → p a[i] b[i] = true) (fun j => a.length - j) 0 ⟨Nat.zero_le _, fun i _ _ h => by omega⟩ (Weak.of_eq (by simp) rfl) ?_
    rintro j ⟨hj, hno⟩
    rcases Nat.lt_or_ge j a.length with h' | h'
    · have hk1 := i64_succ j (by omega)
      have h'' : j < b.length := by omega
      have hxm : a[j] ∈ a := List.getElem_mem h'
      have hym : b[j] ∈ b := List.getElem_mem h''
      generalize hx : a[j] = x at hxm
      generalize hy : b[j] = y at hym
      have s1 := pop_shape (ha x hxm)
      have s2 := pop_shape (hb y hym)
      simp [h', h'', hx, hy]
      rw [s1, s2]
      refine ⟨rfl, rfl, rfl, rfl, rfl, rfl, ?_⟩
      refine CallB.p (hf x hxm y hym) ?_
      cases hp : p x y with
      | true =>
        simp [hk1]
        refine ⟨j + 1, ⟨h', fun i hi hi' hlt => ?_⟩, by omega, Weak.trans (Weak.cut (H := []) (Nat.le_refl _) (by simp) rfl) (Weak.of_eq (by simp) rfl)⟩
        rcases Nat.lt_or_ge i j with h1 | h1
        · exact hno i hi hi' h1
        · have : i = j := by omega
          subst this
          rw [hx, hy]; exact hp
      | false =>
        simp
        rw [eqBy_false h' h'' (by rw [hx, hy]; exact hp)]
    · have : j = a.length := by omega
      subst this
      simp [hlen]
      rw [eqBy_true hlen fun i h h2 => hno i h h2 h]
  · have hli : ¬ (a.length : Int) = b.length := by omega
    have hne : eqBy p a b = false := by simp [eqBy, hlen]
    simp [c_slices_EqualFunc_Op, r_slices_EqualFunc_Op, hli, hne]

theorem f_slices_EqualFunc_Patch (a b : List Patch) (hl : a.length < 1073741824) {F : Nat} (p : Patch → Patch → Bool) (ha : ∀ x ∈ a, x.key.length = 32) (hb : ∀ x ∈ b, x.key.length = 32) (hf : ∀ x ∈ a, ∀ y ∈ b, TCp Pg F [patchV x, patchV y] (.bool (p x y))) :
    TCp Pg n_slices_EqualFunc_Patch [.sl 39 (a.map patchV) .view, .sl 39 (b.map patchV) .view, .fn F [] []] (.bool (eqBy p a b)) := by
  refine TCp.body k_slices_EqualFunc_Patch hP rfl (by simp) rfl ?_
  by_cases hlen : a.length = b.length
  · have hli : (a.length : Int) = b.length := by omega
    simp [c_slices_EqualFunc_Patch, r_slices_EqualFunc_Patch, hlen]
    refine AW_wloopW (fun j : Nat => [(1, .sl 39 (b.map patchV) .view), (2, .fn F [] []), (15, .sl 39 (a.map patchV) .view), (16, .int .i64 b.length), (17, .int .i64 j)]) (fun _ => []) (fun j => j ≤ a.length ∧ ∀ i, (h : i < a.length) → (h' : i < b.length) → i < j → p a[i] b[i] = true) (fun j => a.length - j) 0 ⟨Nat.zero_le _, fun i _ _ h => by omega⟩ (Weak.of_eq (by simp) rfl) ?_
    rintro j ⟨hj, hno⟩
    rcases Nat.lt_or_ge j a.length with h' | h'
    · have hk1 := i64_succ j (by omega)
      have h'' : j < b.length := by omega
      have hxm : a[j] ∈ a := List.getElem_mem h'
      have hym : b[j] ∈ b := List.getElem_mem h''
      generalize hx : a[j] = x at hxm
      generalize hy : b[j] = y at hym
      have s1 := patch_shape (ha x hxm)
      have s2 := patch_shape (hb y hym)
      simp [h', h'', hx, hy]
      rw [s1, s2]
      refine ⟨rfl, rfl, rfl, rfl, rfl, rfl, ?_⟩
      refine CallB.p (hf x hxm y hym) ?_
      cases hp : p x y with
      | true =>
        simp [hk1]
        refine ⟨j + 1, ⟨h', fun i hi hi' hlt => ?_⟩, by omega, Weak.trans (Weak.cut (H := []) (Nat.le_refl _) (by simp) rfl) (Weak.of_eq (by simp) rfl)⟩
        rcases Nat.lt_or_ge i j with h1 | h1
        · exact hno i hi hi' h1
        · have : i = j := by omega
          subst this
          rw [hx, hy]; exact hp
      | false =>
        simp
        rw [eqBy_false h' h'' (by rw [hx, hy]; exact hp)]
    · have : j = a.length := by omega
      subst this
      simp [hlen]
      rw [eqBy_true hlen fun i h h2 => hno i h h2 h]
  · have hli : ¬ (a.length : Int) = b.length := by omega
    have hne : eqBy p a b = false := by simp [eqBy, hlen]
    simp [c_slices_EqualFunc_Patch, r_slices_EqualFunc_Patch, hli, hne]
end Go.Abs
end

section
namespace Go.Abs
open Go
set_option maxRecDepth 20000

theorem f_slices_Clone_Id (l : List Bs) (hl : l.length < 1073741824) : TCp Pg n_slices_Clone_Id [.sl 32 (l.map idV) .view] (.sl 32 (l.map idV) .view) := by
  refine TCp.bodyV k_slices_Clone_Id hP rfl (by simp) (by simp) ?_
  simp [c_slices_Clone_Id, r_slices_Clone_Id]
  omega

theorem f_slices_Clone_string (l : List Bs) (hl : l.length < 1073741824) : TCp Pg n_slices_Clone_string [.sl 1 (l.map strV) .view] (.sl 1 (l.map strV) .view) := by
  refine TCp.bodyV k_slices_Clone_string hP rfl (by simp) (by simp) ?_
  simp [c_slices_Clone_string, r_slices_Clone_string]
  omega

theorem f_id_Both_1 (a b : Bool) : TCp Pg n_id_Both_1 [.bool a, .bool b] (.bool (a && b)) := by
  refine TCp.body k_id_Both_1 hP rfl rfl rfl ?_
  simp [c_id_Both_1, r_id_Both_1]

theorem f_id_Minus_1 (a b : Bool) : TCp Pg n_id_Minus_1 [.bool a, .bool b] (.bool (a && !b)) := by
  refine TCp.body k_id_Minus_1 hP rfl rfl rfl ?_
  simp [c_id_Minus_1, r_id_Minus_1]

def written (x : Sig) : Bool := decide ((x.shown.length : Int) ≤ 256) && decide ((x.hidden.length : Int) ≤ 256) && decide ((x.way.length : Int) ≤ 10) && decide (0 ≤ x.leaf) && decide (x.leaf ≤ 4611686018427387904)

theorem f_patch_written (x : Sig) : TCp Pg n_patch_written [sigV x] (.bool (written x)) := by
  refine TCp.body k_patch_written hP rfl (by simp [sigV]) rfl ?_
  simp [c_patch_written, r_patch_written, sigV]
  rfl

theorem f_ref15_Written (x : Sig) : TCp Pg n_ref15_Written [sigV x] (.bool (written x)) := by
  refine TCp.body k_ref15_Written hP rfl (by simp [sigV]) rfl ?_
  simp [c_ref15_Written, r_ref15_Written, sigV]
  rfl

def hunkV (o : POp) : V := .agg [.int .i64 o.at_, .sl 1 (o.old.map strV) .view, .sl 1 (o.new.map strV) .view]
theorem f_op_Hunk (o : POp) : TCp Pg n_op_Hunk [popV o] (hunkV o) := by
  refine TCp.body k_op_Hunk hP rfl (by simp) (by simp [hunkV]) ?_
  simp [c_op_Hunk, r_op_Hunk, popV, hunkV]
end Go.Abs
end

section
namespace Go.Abs
open Go
set_option maxRecDepth 20000

def lineOk (s : Bs) : Bool := decide (s.length ≤ 200) && !s.contains 10
def linesOk (l : List Bs) : Bool := decide (l.length ≤ 1000) && l.all lineOk

theorem f_hunk_Lines_1 (s : Bs) : TCp Pg n_hunk_Lines_1 [.str s] (.bool (!lineOk s)) := by
  refine TCp.body k_hunk_Lines_1 hP rfl rfl rfl ?_
  simp [c_hunk_Lines_1, r_hunk_Lines_1]
  refine CallG.of (r := .bool (s.contains 10)) (fun h => ⟨h, f_strings_Contains1 s 10⟩) ?_
  by_cases e : 200 < (s.length : Int)
  · have e2 : ¬ s.length ≤ 200 := by omega
    simp [e, e2, lineOk]
  · have e2 : s.length ≤ 200 := by omega
    simp [e, e2, lineOk]

theorem f_hunk_Lines (l : List Bs) (hl : l.length < 1073741824) : TCp Pg n_hunk_Lines [.sl 1 (l.map strV) .view] (.bool (linesOk l)) := by
  refine TCp.body k_hunk_Lines hP rfl (by simp) rfl ?_
  simp [c_hunk_Lines, r_hunk_Lines]
  refine CallG.of (r := .bool (l.any fun s => !lineOk s)) (fun h => ⟨h, f_slices_ContainsFunc_string l hl rfl rfl _ fun x _ => f_hunk_Lines_1 x⟩) ?_
  by_cases e : (l.length : Int) ≤ 1000
  · have e2 : l.length ≤ 1000 := by omega
    simp [e, e2, linesOk]
    rw [List.not_all_eq_any_not]
  · have e2 : ¬ l.length ≤ 1000 := by omega
    simp [e, e2, linesOk]

theorem f_ref11_Line (s : Bs) (h : s.length < 1073741824) : TCp Pg n_ref11_Line [.str s] (.bool (lineOk s)) := by
  refine TCp.body k_ref11_Line hP rfl rfl rfl ?_
  simp [c_ref11_Line, r_ref11_Line]
  refine AW_wloop (fun j : Nat => [(0, .str s), (3, .int .i64 j)]) (fun _ => []) (fun j => j ≤ s.length ∧ (s.take j).contains 10 = false) (fun j => s.length - j) 0 ⟨Nat.zero_le _, rfl⟩ (Weak.of_eq (by simp) rfl) ?_
  rintro j ⟨hj, hno⟩
  rcases Nat.lt_or_ge j s.length with h' | h'
  · have hk1 := i64_succ j (by omega)
    obtain ⟨x, hx, hta, hm⟩ := at_k h'
    simp [h', hx, hk1, byteV]
    by_cases e : x = 10
    · subst e
      refine ⟨fun _ => ?_, fun q => (q rfl).elim⟩
      have hc : s.contains 10 = true := by simpa using hm
      simp [lineOk]
      exact fun _ => hm
    · have e1 : ¬ (x.toNat : Int) = 10 := fun q => e (UInt8.toNat.inj (by show x.toNat = 10; omega))
      refine ⟨fun q => (e1 q).elim, fun _ => ⟨j + 1, ⟨h', ?_⟩, by omega, by omega⟩⟩
      rw [hta]
      simp at hno
      simp [hno, Ne.symm e]
  · have : j = s.length := by omega
    subst this
    simp
    rw [List.take_length] at hno
    by_cases q : s.length ≤ 200
    · have : (s.length : Int) ≤ 200 := by omega
      simp [lineOk, q, this]
      simpa using hno
    · have : ¬ (s.length : Int) ≤ 200 := by omega
      simp [lineOk, q, this]

theorem f_ref11_Lines (l : List Bs) (hl : l.length < 1073741824) (h : ∀ s ∈ l, s.length < 1073741824) : TCp Pg n_ref11_Lines [.sl 1 (l.map strV) .view] (.bool (linesOk l)) := by
  refine TCp.body k_ref11_Lines hP rfl (by simp) rfl ?_
  simp [c_ref11_Lines, r_ref11_Lines]
  refine AW_wloop (fun j : Nat => [(0, .sl 1 (l.map strV) .view), (3, .int .i64 j)]) (fun _ => []) (fun j => j ≤ l.length ∧ (l.take j).all lineOk = true) (fun j => l.length - j) 0 ⟨Nat.zero_le _, rfl⟩ (Weak.of_eq (by simp) rfl) ?_
  rintro j ⟨hj, hno⟩
  rcases Nat.lt_or_ge j l.length with h' | h'
  · have hk1 := i64_succ j (by omega)
    obtain ⟨x, hx, hta, hm⟩ := at_k h'
    simp [h', hx, strV]
    refine CallB.p (f_ref11_Line x (h x hm)) ?_
    cases e : lineOk x with
    | false =>
      have : l.all lineOk = false := List.all_eq_false.2 ⟨x, hm, by simp [e]⟩
      simp [linesOk, this]
    | true =>
      simp [hk1]
      have hall : (l.take (j + 1)).all lineOk = true := by rw [hta, List.all_append, hno]; simp [e]
      exact ⟨j + 1, ⟨h', by simpa using hall⟩, by omega, by omega⟩
  · have : j = l.length := by omega
    subst this
    rw [List.take_length] at hno
    simp
    by_cases q : l.length ≤ 1000
    · have : (l.length : Int) ≤ 1000 := by omega
      simp [linesOk, q, this, hno]
    · have : ¬ (l.length : Int) ≤ 1000 := by omega
      simp [linesOk, q, this]

def hunkOk (at_ : Int) (old new : List Bs) : Bool := decide (0 ≤ at_) && decide (at_ ≤ 1000) && linesOk old && linesOk new && decide (0 < old.length + new.length)

theorem f_hunk_Right (o : POp) (h1 : o.old.length < 1100000) (h2 : o.new.length < 1100000) : TCp Pg n_hunk_Right [hunkV o] (.bool (hunkOk o.at_ o.old o.new)) := by
  refine TCp.body k_hunk_Right hP rfl (by simp [hunkV]) rfl ?_
  simp [c_hunk_Right, r_hunk_Right, hunkV]
  refine CallG.of (r := .bool (linesOk o.old)) (fun h => ⟨h, f_hunk_Lines _ (by omega)⟩) ?_
  simp
  refine CallG.of (r := .bool (linesOk o.new)) (fun h => ⟨h, f_hunk_Lines _ (by omega)⟩) ?_
  simp
  rw [wrap_i64 (by omega) (by omega)]
  unfold hunkOk
  congr 1
  exact decide_eq_decide.2 ⟨fun h => by omega, fun h => by omega⟩

theorem f_ref11_Right (o : POp) (h1 : o.old.length < 1100000) (h2 : o.new.length < 1100000) (g1 : ∀ s ∈ o.old, s.length < 1073741824) (g2 : ∀ s ∈ o.new, s.length < 1073741824) : TCp Pg n_ref11_Right [hunkV o] (.bool (hunkOk o.at_ o.old o.new)) := by
  refine TCp.body k_ref11_Right hP rfl (by simp [hunkV]) rfl ?_
  simp [c_ref11_Right, r_ref11_Right, hunkV]
  refine CallG.of (r := .bool (linesOk o.old)) (fun h => ⟨h, f_ref11_Lines _ (by omega) g1⟩) ?_
  simp
  refine CallG.of (r := .bool (linesOk o.new)) (fun h => ⟨h, f_ref11_Lines _ (by omega) g2⟩) ?_
  simp
  refine ⟨fun a b c d => ⟨⟨⟨⟨a, b⟩, c⟩, d⟩, fun e => ⟨⟨⟨⟨a, b⟩, c⟩, d⟩, e⟩⟩, ?_⟩
  unfold hunkOk
  congr 1
  rw [← Bool.decide_or]
  exact decide_eq_decide.2 ⟨fun h => by omega, fun h => by omega⟩

theorem f_hunk_Same (a b : POp) (h1 : a.old.length < 1100000) (h2 : a.new.length < 1100000) : TCp Pg n_hunk_Same [hunkV a, hunkV b] (.bool (decide (a.at_ = b.at_) && decide (a.old = b.old) && decide (a.new = b.new))) := by
  refine TCp.body k_hunk_Same hP rfl (by simp [hunkV]) rfl ?_
  simp [c_hunk_Same, r_hunk_Same, hunkV]
  refine CallG.of (r := .bool (decide (a.old = b.old))) (fun h => ⟨h, f_slices_Equal_string _ _ (by omega)⟩) ?_
  simp
  refine CallG.of (r := .bool (decide (a.new = b.new))) (fun h => ⟨h, f_slices_Equal_string _ _ (by omega)⟩) ?_
  simp
end Go.Abs
end
