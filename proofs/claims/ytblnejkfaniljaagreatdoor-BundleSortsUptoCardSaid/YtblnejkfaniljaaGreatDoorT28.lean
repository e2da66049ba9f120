/-
  Operations: whether they are right: contracts. Operations: their bytes: contracts. Operations: the document's answer whether they are right: contract. The comparison of bytes: contract. Ids in order: contracts.
  Conditions: those that stand ahead of each theorem; no more.
-/
import Derived.Lib.BytesEntry
import Derived.Laws.Externs
import Derived.Test.YtblnejkfaniljaaGreatDoorT16
import Derived.Test.YtblnejkfaniljaaGreatDoorT24
import Derived.Test.YtblnejkfaniljaaGreatDoorT25
import Derived.Test.YtblnejkfaniljaaGreatDoorT26
import Derived.Test.YtblnejkfaniljaaGreatDoorT27

section
namespace Go.Abs
open Go
set_option maxRecDepth 20000

def prefixOk (s : Bs) : Bool := decide (s = []) || pathRight s

theorem f_path_Prefix (s : Bs) (hs : s.length < 1100000) : TCp Pg n_path_Prefix [.str s] (.bool (prefixOk s)) := by
  refine TCp.body k_path_Prefix hP rfl rfl rfl ?_
  simp [c_path_Prefix, r_path_Prefix]
  refine CallG.of (r := .bool (pathRight s)) (fun h => ⟨h, f_path_Right s hs⟩) ?_
  simp [prefixOk]
theorem f_ref13_prefix (s : Bs) (hs : s.length < 1100000) : TCp Pg n_ref13_prefix [.str s] (.bool (prefixOk s)) := by
  refine TCp.body k_ref13_prefix hP rfl rfl rfl ?_
  simp [c_ref13_prefix, r_ref13_prefix]
  refine CallG.of (r := .bool (pathRight s)) (fun h => ⟨h, f_ref10_Right s hs⟩) ?_
  simp [prefixOk]

/-- What an operation must be by its kind. -/
def kindOk (o : POp) : Bool :=
  if o.kind = 2 then pathRight o.path && linesOk o.old
  else if o.kind = 3 then pathRight o.path && hunkOk o.at_ o.old o.new
  else if o.kind = 4 then pathRight o.path && pathRight o.dest && !decide (o.path = o.dest)
  else if o.kind = 5 ∨ o.kind = 6 then prefixOk o.path
  else pathRight o.path

theorem bare_ok {o : POp} (h : o.Ok) : (bare o).Ok := by
  refine ⟨?_, ?_, ?_, h.path, ?_, ?_, ?_⟩
  · show (if _ then o.key else zero32).length = 32
    split
    · exact h.key
    · rfl
  · show (if _ then o.old else []).length < _
    split
    · exact h.old
    · simp
  · show (if _ then o.new else []).length < _
    split
    · exact h.new
    · simp
  · show (if _ then o.dest else []).length < _
    split
    · exact h.dest
    · simp
  · intro s hs
    simp only [bare] at hs
    split at hs
    · exact h.olds s hs
    · simp at hs
  · intro s hs
    simp only [bare] at hs
    split at hs
    · exact h.news s hs
    · simp at hs

def formed (o : POp) : Bool := kindOk o && sameOp o (bare o)

theorem f_op_formed (o : POp) (h : o.Ok) : TCp Pg n_op_formed [popV o] (.bool (formed o)) := by
  have hbare := f_op_bare o h
  have hsame := f_op_Same o (bare o) h (bare_ok h)
  have hhunk := f_op_Hunk o
  have hhr := f_hunk_Right o h.old h.new
  have hln := f_hunk_Lines o.old (by have := h.old; omega)
  have hpr := f_path_Right o.path h.path
  have hdr := f_path_Right o.dest h.dest
  have hpx := f_path_Prefix o.path h.path
  have s1 := id_shape h.key
  have hk : formed o = (kindOk o && sameOp o (bare o)) := rfl
  rw [hk]
  clear hk
  refine TCp.body k_op_formed hP rfl (by simp) rfl ?_
  have hvw : (popV (bare o)).vw = popV (bare o) := op_vw _
  generalize sameOp o (bare o) = sm at *
  generalize hbv : popV (bare o) = bv at *
  clear hbv h
  obtain ⟨kind, path, dest, at_, old, new, key, depth⟩ := o
  dsimp only at *
  by_cases h2 : kind = 2
  · subst h2
    have hko : kindOk ⟨2, path, dest, at_, old, new, key, depth⟩ = (pathRight path && linesOk old) := by simp [kindOk]
    rw [hko]
    simp [c_op_formed, r_op_formed, popV]
    refine CallB.p hpr ?_
    simp
    refine CallG.of (r := .bool _) (fun q => ⟨q, hln⟩) ?_
    simp [s1]
    refine CallG.of (fun q => ⟨q, hbare⟩) ?_
    simp [hvw]
    refine CallG.of (r := .bool _) (fun q => ⟨q, hsame⟩) ?_
    simp
  by_cases h3 : kind = 3
  · subst h3
    have hko : kindOk ⟨3, path, dest, at_, old, new, key, depth⟩ = (pathRight path && hunkOk at_ old new) := by simp [kindOk]
    rw [hko]
    simp [c_op_formed, r_op_formed, popV]
    refine CallB.p hpr ?_
    simp [s1]
    refine CallG.of (fun q => ⟨q, hhunk⟩) ?_
    simp
    refine CallG.of (r := .bool _) (fun q => ⟨q, hhr⟩) ?_
    simp [s1]
    refine CallG.of (fun q => ⟨q, hbare⟩) ?_
    simp [hvw]
    refine CallG.of (r := .bool _) (fun q => ⟨q, hsame⟩) ?_
    simp
  by_cases h4 : kind = 4
  · subst h4
    have hko : kindOk ⟨4, path, dest, at_, old, new, key, depth⟩ = (pathRight path && pathRight dest && !decide (path = dest)) := by simp [kindOk]
    rw [hko]
    simp [c_op_formed, r_op_formed, popV]
    refine CallB.p hpr ?_
    simp
    refine CallG.of (r := .bool _) (fun q => ⟨q, hdr⟩) ?_
    simp [s1]
    refine CallG.of (fun q => ⟨q, hbare⟩) ?_
    simp [hvw]
    refine CallG.of (r := .bool _) (fun q => ⟨q, hsame⟩) ?_
    simp
  by_cases h5 : kind = 5
  · subst h5
    have hko : kindOk ⟨5, path, dest, at_, old, new, key, depth⟩ = prefixOk path := by simp [kindOk]
    rw [hko]
    simp [c_op_formed, r_op_formed, popV]
    refine CallB.p hpr ?_
    simp
    refine CallB.p hpx ?_
    simp [s1]
    refine CallG.of (fun q => ⟨q, hbare⟩) ?_
    simp [hvw]
    refine CallG.of (r := .bool _) (fun q => ⟨q, hsame⟩) ?_
    simp
  by_cases h6 : kind = 6
  · subst h6
    have hko : kindOk ⟨6, path, dest, at_, old, new, key, depth⟩ = prefixOk path := by simp [kindOk]
    rw [hko]
    simp [c_op_formed, r_op_formed, popV]
    refine CallB.p hpr ?_
    simp
    refine CallB.p hpx ?_
    simp [s1]
    refine CallG.of (fun q => ⟨q, hbare⟩) ?_
    simp [hvw]
    refine CallG.of (r := .bool _) (fun q => ⟨q, hsame⟩) ?_
    simp
  have hko : kindOk ⟨kind, path, dest, at_, old, new, key, depth⟩ = pathRight path := by simp [kindOk, h2, h3, h4, h5, h6]
  rw [hko]
  simp [c_op_formed, r_op_formed, popV]
  refine CallB.p hpr ?_
  simp [h2, h3, h4, h5, h6, s1]
  refine CallG.of (fun q => ⟨q, hbare⟩) ?_
  simp [hvw]
  refine CallG.of (r := .bool _) (fun q => ⟨q, hsame⟩) ?_
  simp

/-- What is wrong with an operation. -/
def opRight (o : POp) : Int := if o.kind < 1 ∨ 6 < o.kind then 1 else if formed o = false then 3 else if o.depth < 0 ∨ 8 < o.depth then 5 else 0

theorem f_op_Right (o : POp) (h : o.Ok) : TCp Pg n_op_Right [popV o] (.int .i64 (opRight o)) := by
  have hf := f_op_formed o h
  have s1 := id_shape h.key
  refine TCp.body k_op_Right hP rfl (by simp) rfl ?_
  by_cases h1 : o.kind < 1
  · have : opRight o = 1 := by simp [opRight, h1]
    rw [this]
    simp [c_op_Right, r_op_Right, popV, h1]
  by_cases h6 : 6 < o.kind
  · have : opRight o = 1 := by simp [opRight, h6]
    rw [this]
    simp [c_op_Right, r_op_Right, popV, h1, h6]
  have hor : opRight o = if formed o = false then 3 else if o.depth < 0 ∨ 8 < o.depth then 5 else 0 := by simp [opRight, h1, h6]
  rw [hor]
  simp [c_op_Right, r_op_Right, popV, h1, h6, s1]
  refine CallB.p hf ?_
  cases formed o with
  | false => simp
  | true =>
    by_cases h0 : o.depth < 0
    · simp [h0, s1]
    by_cases h8 : 8 < o.depth
    · simp [h0, h8, s1]
    simp [h0, h8, s1]

def hasL (o : POp) : List Bool := [!decide (o.dest = []), !decide (o.at_ = 0), decide (0 < o.old.length), decide (0 < o.new.length), !decide (o.key = zero32), !decide (o.depth = 0)]
def names : Bs := [84, 65, 79, 78, 75, 68]
def onlyB (o : POp) (l : Bs) : Bool := ((hasL o).zip names).all fun q => !q.1 || l.contains q.2

theorem f_ref13_only (o : POp) (h : o.Ok) (l : Bs) (hl : l.length < 1000) : TCp Pg n_ref13_only [popV o, .str l] (.bool (onlyB o l)) := by
  have s1 := id_shape h.key
  have f1 := id_fits h.key
  have hz : V.agg (List.replicate 32 (.int .u8 0)) = idV zero32 := rfl
  have f2 := id_fits (show zero32.length = 32 from rfl)
  have he := id_eq o.key zero32
  refine TCp.body k_ref13_only hP rfl (by simp) rfl ?_
  have hon : onlyB o l = ((hasL o).zip names).all fun q => !q.1 || l.contains q.2 := rfl
  have hL : (hasL o).length = 6 := rfl
  have hN : names.length = 6 := rfl
  simp [c_ref13_only, r_ref13_only, popV, s1]
  refine ⟨⟨f1, f2⟩, ?_⟩
  refine AW_wloop (fun i : Nat => [(1, .str l), (5, .ptr 1 []), (6, .str names), (7, .int .i64 i)]) (fun _ => [.cell (popV o), .cell (.agg ((hasL o).map V.bool))]) (fun i => i ≤ 6 ∧ (((hasL o).zip names).take i).all (fun q => !q.1 || l.contains q.2) = true) (fun i => 6 - i) 0 ⟨Nat.zero_le _, rfl⟩
    (Weak.of_eq (by rfl) (by simp only [hasL, List.map_cons, List.map_nil]; rw [← he]; rfl)) ?_
  rw [hon]
  generalize hasL o = L at hL ⊢
  generalize names = N at hN ⊢
  rintro i ⟨hi, hno⟩
  rcases Nat.lt_or_ge i 6 with h' | h'
  · have hk1 := i64_succ i (by omega)
    have hii : (i : Int) < 6 := by omega
    have hz : i < (L.zip N).length := by rw [List.length_zip]; omega
    obtain ⟨q, hq, hta, hm⟩ := at_k hz
    rw [List.getElem_zip] at hq
    have hLi : L[i]'(by omega) = q.1 := by rw [← hq]
    have hNi : N[i]'(by omega) = q.2 := by rw [← hq]
    have gL : (L.map V.bool)[i]? = some (.bool q.1) := by rw [List.getElem?_map, List.getElem?_eq_getElem (by omega), hLi]; rfl
    simp [hii]
    refine AW_wloop (fun k : Nat => [(1, .str l), (5, .ptr 1 []), (6, .str N), (7, .int .i64 i), (8, .bool ((l.take k).contains q.2)), (9, .int .i64 k)]) (fun _ => [.cell (popV o), .cell (.agg (L.map V.bool))]) (fun k => k ≤ l.length) (fun k => l.length - k) 0 (Nat.zero_le _) (Weak.of_eq (by simp) rfl) ?_
    intro k hk
    rcases Nat.lt_or_ge k l.length with h'' | h''
    · have hk2 := i64_succ k (by omega)
      obtain ⟨x, hx, htx, hxm⟩ := at_k h''
      have hiN : i < N.length := by omega
      simp [h'', hx, hk2, hiN, hNi, byteV]
      refine ⟨k + 1, h'', by omega, ?_, by omega⟩
      rw [htx, ← Bool.decide_or]
      refine decide_eq_decide.2 ?_
      have e1 : ((x.toNat : Int) = (q.2.toNat : Int)) ↔ q.2 = x := ⟨fun h => UInt8.toNat.inj (by omega), fun h => by rw [h]⟩
      rw [e1]
      simp
    · have : k = l.length := by omega
      subst this
      simp [gL, hL, hk1]
      refine ⟨⟨fun x hx => ?_, hii⟩, fun h1 h2 => ⟨q.2, by rw [← h1]; exact hm, h2⟩, fun h1 => ?_⟩
      · rcases hx with ⟨_, rfl⟩ | ⟨_, rfl⟩ <;> rfl
      · have hall : ((L.zip N).take (i + 1)).all (fun q => !q.1 || l.contains q.2) = true := by
          rw [hta, List.all_append, hno]
          cases e : q.1 with
          | false => simp [e]
          | true => simp [e, h1 e]
        exact ⟨i + 1, ⟨by omega, by simpa using hall⟩, by omega, by omega⟩
  · have : i = 6 := by omega
    subst this
    have hzl : (L.zip N).take 6 = L.zip N := List.take_of_length_le (by rw [List.length_zip]; omega)
    rw [hzl] at hno
    simp
    simpa using hno

/-- The letters of what an operation of a kind may have. -/
def lettersOf (k : Int) : Bs := if k = 2 then [79] else if k = 3 then [65, 79, 78] else if k = 4 then [84] else if k = 5 then [75, 68] else if k = 6 then [75] else []
theorem len_pos (l : List Bs) : (0 < l.length) ↔ ¬ l = [] := by cases l <;> simp
theorem same_only (o : POp) : sameOp o (bare o) = onlyB o (lettersOf o.kind) := by
  obtain ⟨kind, path, dest, at_, old, new, key, depth⟩ := o
  rw [Bool.eq_iff_iff]
  by_cases h2 : kind = 2
  · subst h2; simp [sameOp, bare, onlyB, hasL, names, lettersOf, len_pos]; simp only [and_assoc, and_comm, and_left_comm]
  by_cases h3 : kind = 3
  · subst h3; simp [sameOp, bare, onlyB, hasL, names, lettersOf, len_pos]; simp only [and_assoc, and_comm, and_left_comm]
  by_cases h4 : kind = 4
  · subst h4; simp [sameOp, bare, onlyB, hasL, names, lettersOf, len_pos]; simp only [and_assoc, and_comm, and_left_comm]
  by_cases h5 : kind = 5
  · subst h5; simp [sameOp, bare, onlyB, hasL, names, lettersOf, len_pos]; simp only [and_assoc, and_comm, and_left_comm]; exact fun _ => trivial
  by_cases h6 : kind = 6
  · subst h6; simp [sameOp, bare, onlyB, hasL, names, lettersOf, len_pos]; simp only [and_assoc, and_comm, and_left_comm]
  simp [sameOp, bare, onlyB, hasL, names, lettersOf, len_pos, h2, h3, h4, h5, h6]; simp only [and_assoc, and_comm, and_left_comm]

end Go.Abs
end

section
namespace Go.Abs
open Go
set_option maxRecDepth 20000

def textsB (l : List Bs) : Bs := numB l.length ++ l.flatMap textB
def opRest (o : POp) : Bs :=
  if o.kind = 2 then textsB o.old
  else if o.kind = 3 then numB o.at_.toNat ++ (textsB o.old ++ textsB o.new)
  else if o.kind = 4 then textB o.dest
  else if o.kind = 5 then o.key ++ numB o.depth.toNat
  else if o.kind = 6 then o.key
  else []
def opB (o : POp) : Bs := [b8 o.kind] ++ textB o.path ++ opRest o

theorem textB_len (x : Bs) : x.length ≤ (textB x).length := by rw [textB, List.length_append]; omega

theorem CallB.ww {P : Program} {f : FuncId} {args : List V} {H : HP} {t k : Nat} {s s' : Bs} {K : V → HP → Prop} {b : Box K} {Q : V → HP → Prop} (h : TC P f args (wH H t k s) Q) (e : s' = s) (hk : ∀ r H', Q r H' → K r H') : CallB P f args (wH H t k s') b := by
  subst e; exact CallB.w h hk

section
variable {H : HP} {t k : Nat} {s : Bs}
theorem wH_doneL {e : Bs} {L X : HP} {Q : V → HP → Prop} {r : V} (hU : underH H.length (wH H t k s) = true) (_ht : t < H.length) (hk : k < H.length) (hn : t ≠ k) (hX : X = wH H t k e ++ L) (hq : Q r (wH H t k e)) :
    ∃ H', (∃ x, X = H' ++ x) ∧ H'.length = H.length ∧ underH H.length H' = true ∧ Q r H' := by
  refine ⟨_, ⟨L, hX⟩, wH_length, ?_, hq⟩
  rw [← wH_set (s := s) hn rfl]
  exact underH_set (underH_setRow hU) (by simp [V.under, V.underL, hk])

set_option maxHeartbeats 2000000 in
theorem f_op_Put (ht : t < H.length) (hk : k < H.length) (hn : t ≠ k) (o : POp) (h : o.Ok) (hr : opRight o = 0) (hb : (opB o).length < 100000000) (hs : s.length < 900000000) :
    TC Pg n_op_Put [.ptr t [], popV o] (wH H t k s) fun _ H' => H' = wH H t k (s ++ opB o) := by
  have hrc := f_op_Right o h
  rw [hr] at hrc
  have s1 := id_shape h.key
  have hd : o.kind = 5 → 0 ≤ o.depth ∧ o.depth ≤ 8 := by
    intro h5
    unfold opRight at hr
    split at hr
    · cases hr
    · split at hr
      · cases hr
      · split at hr
        · cases hr
        · omega
  have ha : o.kind = 3 → 0 ≤ o.at_ ∧ o.at_ ≤ 1000 := by
    intro h3
    have hf : formed o = true := by
      unfold opRight at hr
      split at hr
      · cases hr
      · split at hr
        · cases hr
        · rename_i q; simpa using q
    simp [formed, kindOk, h3, hunkOk] at hf
    omega
  have hbo : (opB o).length = 1 + (textB o.path).length + (opRest o).length := by simp [opB]; omega
  have hpl := textB_len o.path
  have hq : opB o = [b8 o.kind] ++ textB o.path ++ opRest o := rfl
  refine TC.bodyW k_op_Put hP rfl fun hU => ?_
  generalize hQ : (fun (_ : V) (H' : HP) => H' = wH H t k (s ++ opB o)) = Q
  have happ : ∀ e : Bs, wH (H ++ [Blk.cell (popV o)]) t k e = wH H t k e ++ [Blk.cell (popV o)] := fun e => wH_append ht hk
  have ht1 : t < (H ++ [Blk.cell (popV o)]).length := by rw [List.length_append]; omega
  have hk1 : k < (H ++ [Blk.cell (popV o)]).length := by rw [List.length_append]; omega
  have g4 : ∀ e : Bs, (wH (H ++ [Blk.cell (popV o)]) t k e)[H.length]? = some (.cell (popV o)) := fun e => by rw [wH_ne (by omega) (by omega)]; simp
  have hfin : ∀ (X : HP) (r : V), X = wH (H ++ [Blk.cell (popV o)]) t k (s ++ opB o) → ∃ H', (∃ x, X = H' ++ x) ∧ H'.length = H.length ∧ underH H.length H' = true ∧ Q r H' := by
    intro X r hX
    exact wH_doneL (e := s ++ opB o) hU ht hk hn (hX.trans (happ _)) (by rw [← hQ])
  obtain ⟨kind, path, dest, at_, old, new, key, depth⟩ := o
  simp only [popV] at *
  generalize hH1 : H ++ [Blk.cell (V.agg [V.int IntKind.i64 kind, V.str path, V.str dest, V.int IntKind.i64 at_, V.sl 1 (List.map strV old) Tok.view, V.sl 1 (List.map strV new) Tok.view, idV key, V.int IntKind.i64 depth])] = H1 at *
  have hb1 : IntKind.u8.wrap kind = ((b8 kind).toNat : Int) := by rw [b8_toNat, wrap_u8]
  simp [c_op_Put, r_op_Put, wH_length, s1]
  refine CallB.p hrc ?_
  simp [← happ, g4, hb1]
  refine CallB.w (f_Writer_Byte (s := s) ht1 hk1 hn (b8 kind) (by omega)) ?_
  rintro _ _ rfl
  simp [g4]
  refine CallB.w (f_Writer_Text ht1 hk1 hn path (by simp; omega)) ?_
  rintro _ _ rfl
  have hpre : s ++ [b8 kind] ++ (numB path.length ++ path) = s ++ ([b8 kind] ++ textB path) := by simp [textB]
  have hlen1 : (s ++ ([b8 kind] ++ textB path)).length = s.length + 1 + (textB path).length := by rw [List.length_append, List.length_append]; simp; omega
  rw [hpre]
  have hrest : ∀ e, opRest ⟨kind, path, dest, at_, old, new, key, depth⟩ = e → opB ⟨kind, path, dest, at_, old, new, key, depth⟩ = [b8 kind] ++ textB path ++ e := fun e he => by rw [hq, he]
  by_cases k2 : kind = 2
  · subst k2
    have hr2 : opRest ⟨2, path, dest, at_, old, new, key, depth⟩ = textsB old := by simp [opRest]
    rw [hr2] at hbo
    simp [g4]
    refine CallB.w (f_Writer_Texts (s := s ++ ([b8 2] ++ textB path)) ht1 hk1 hn old (by simp only [textsB] at hbo; omega)) ?_
    rintro _ _ rfl
    simp
    exact hfin _ _ (by rw [hrest _ hr2]; simp [textsB])
  by_cases k3 : kind = 3
  · subst k3
    obtain ⟨a0, a1⟩ := ha rfl
    obtain ⟨n, hn0⟩ : ∃ n : Nat, at_ = n := ⟨at_.toNat, by omega⟩
    subst hn0
    have hr2 : opRest ⟨3, path, dest, n, old, new, key, depth⟩ = numB n ++ (textsB old ++ textsB new) := by simp [opRest]
    rw [hr2, List.length_append, List.length_append] at hbo
    simp [g4]
    refine CallB.w (f_Writer_Num (s := s ++ ([b8 3] ++ textB path)) ht1 hk1 hn n (by omega) (by omega)) ?_
    rintro _ _ ⟨rfl, rfl⟩
    simp [g4]
    refine CallB.ww (f_Writer_Texts (s := s ++ ([b8 3] ++ textB path) ++ numB n) ht1 hk1 hn old (by rw [List.length_append]; simp only [textsB] at hbo; omega)) (by simp) ?_
    rintro _ _ rfl
    simp [g4]
    refine CallB.ww (f_Writer_Texts (s := s ++ ([b8 3] ++ textB path) ++ numB n ++ textsB old) ht1 hk1 hn new (by rw [List.length_append, List.length_append]; simp only [textsB] at hbo ⊢; omega)) (by simp [textsB]) ?_
    rintro _ _ rfl
    simp
    exact hfin _ _ (by rw [hrest _ hr2]; simp [textsB])
  by_cases k4 : kind = 4
  · subst k4
    have hr2 : opRest ⟨4, path, dest, at_, old, new, key, depth⟩ = textB dest := by simp [opRest]
    rw [hr2] at hbo
    have := textB_len dest
    simp [g4]
    refine CallB.w (f_Writer_Text (s := s ++ ([b8 4] ++ textB path)) ht1 hk1 hn dest (by omega)) ?_
    rintro _ _ rfl
    simp
    exact hfin _ _ (by rw [hrest _ hr2]; simp [textB])
  by_cases k5 : kind = 5
  · subst k5
    obtain ⟨a0, a1⟩ := hd rfl
    obtain ⟨n, hn0⟩ : ∃ n : Nat, depth = n := ⟨depth.toNat, by omega⟩
    subst hn0
    have hr2 : opRest ⟨5, path, dest, at_, old, new, key, n⟩ = key ++ numB n := by simp [opRest]
    rw [hr2, List.length_append] at hbo
    have hkl : key.length = 32 := h.key
    simp [g4, s1]
    refine CallB.w (f_Writer_Id (s := s ++ ([b8 5] ++ textB path)) ht1 hk1 hn key h.key (by omega)) ?_
    rintro _ _ rfl
    simp [g4, s1]
    refine CallB.ww (f_Writer_Num (s := s ++ ([b8 5] ++ textB path) ++ key) ht1 hk1 hn n (by omega) (by rw [List.length_append]; omega)) (by simp) ?_
    rintro _ _ ⟨rfl, rfl⟩
    simp
    exact hfin _ _ (by rw [hrest _ hr2]; simp)
  by_cases k6 : kind = 6
  · subst k6
    have hr2 : opRest ⟨6, path, dest, at_, old, new, key, depth⟩ = key := by simp [opRest]
    simp [g4, s1]
    refine CallB.w (f_Writer_Id (s := s ++ ([b8 6] ++ textB path)) ht1 hk1 hn key h.key (by omega)) ?_
    rintro _ _ rfl
    simp
    exact hfin _ _ (by rw [hrest _ hr2]; simp)
  have hr2 : opRest ⟨kind, path, dest, at_, old, new, key, depth⟩ = [] := by simp [opRest, k2, k3, k4, k5, k6]
  simp [g4, k2, k3, k4, k5, k6]
  exact hfin _ _ (by rw [hrest _ hr2]; simp)
end

/-- What is right has its numbers in their bounds. -/
theorem right_bounds {o : POp} (hr : opRight o = 0) : (o.kind = 5 → 0 ≤ o.depth ∧ o.depth ≤ 8) ∧ (o.kind = 3 → 0 ≤ o.at_ ∧ o.at_ ≤ 1000) ∧ 1 ≤ o.kind ∧ o.kind ≤ 6 := by
  unfold opRight at hr
  split at hr
  · cases hr
  · split at hr
    · cases hr
    · split at hr
      · cases hr
      · rename_i h1 h2 h3
        have hf : formed o = true := by simpa using h2
        refine ⟨fun _ => by omega, fun h3 => ?_, by omega, by omega⟩
        simp [formed, kindOk, h3, hunkOk] at hf
        omega

set_option maxHeartbeats 2000000 in
theorem f_ref13_Bytes (o : POp) (h : o.Ok) (hr : opRight o = 0) (hb : (opB o).length < 100000000) : TCp Pg n_ref13_Bytes [popV o] (.str (opB o)) := by
  have s1 := id_shape h.key
  have hkey : o.key.length = 32 := h.key
  obtain ⟨hd, ha, c1, c6⟩ := right_bounds hr
  have hbo : (opB o).length = 1 + (textB o.path).length + (opRest o).length := by simp [opB]; omega
  have hpl := textB_len o.path
  have hq : opB o = [b8 o.kind] ++ textB o.path ++ opRest o := rfl
  have hpt := f_ref05_Text o.path (by omega)
  refine TCp.body k_ref13_Bytes hP rfl (by simp) rfl ?_
  obtain ⟨kind, path, dest, at_, old, new, key, depth⟩ := o
  dsimp only at *
  rw [hq]
  simp [c_ref13_Bytes, r_ref13_Bytes, popV]
  refine CallQ.of hpt ?_
  by_cases k2 : kind = 2
  · subst k2
    have hr2 : opRest ⟨2, path, dest, at_, old, new, key, depth⟩ = textsB old := by simp [opRest]
    rw [hr2] at hbo ⊢
    simp [s1, -List.length_flatMap]
    refine ⟨by omega, CallB.p (f_ref05_Texts old (by simp only [textsB] at hbo; omega)) ?_⟩
    simp [s1, textsB, -List.length_flatMap]
    simp only [textsB, List.length_append] at hbo
    omega
  by_cases k3 : kind = 3
  · subst k3
    obtain ⟨a0, a1⟩ := ha rfl
    obtain ⟨n, hn0⟩ : ∃ n : Nat, at_ = n := ⟨at_.toNat, by omega⟩
    subst hn0
    have hr2 : opRest ⟨3, path, dest, n, old, new, key, depth⟩ = numB n ++ (textsB old ++ textsB new) := by simp [opRest]
    rw [hr2, List.length_append, List.length_append] at hbo
    rw [hr2]
    simp [s1, -List.length_flatMap]
    refine ⟨by omega, CallB.p (f_ref05_Num n (by omega)) ?_⟩
    simp [s1, -List.length_flatMap]
    refine ⟨by omega, CallB.p (f_ref05_Texts old (by simp only [textsB] at hbo; omega)) ?_⟩
    simp [s1, -List.length_flatMap]
    simp only [textsB, List.length_append] at hbo
    refine ⟨by omega, CallB.p (f_ref05_Texts new (by rw [List.length_append]; omega)) ?_⟩
    simp [s1, textsB, -List.length_flatMap]
    omega
  by_cases k4 : kind = 4
  · subst k4
    have hr2 : opRest ⟨4, path, dest, at_, old, new, key, depth⟩ = textB dest := by simp [opRest]
    rw [hr2] at hbo ⊢
    have := textB_len dest
    simp [s1, -List.length_flatMap]
    refine ⟨by omega, CallB.p (f_ref05_Text dest (by omega)) ?_⟩
    simp [s1, -List.length_flatMap]
    omega
  by_cases k5 : kind = 5
  · subst k5
    obtain ⟨a0, a1⟩ := hd rfl
    obtain ⟨n, hn0⟩ : ∃ n : Nat, depth = n := ⟨depth.toNat, by omega⟩
    subst hn0
    have hr2 : opRest ⟨5, path, dest, at_, old, new, key, n⟩ = key ++ numB n := by simp [opRest]
    rw [hr2, List.length_append] at hbo
    rw [hr2]
    simp [s1, -List.length_flatMap]
    refine ⟨by omega, CallB.p (f_ref03_Bytes key h.key) ?_⟩
    simp [s1, -List.length_flatMap]
    refine ⟨by omega, CallB.p (f_ref05_Num n (by omega)) ?_⟩
    simp [-List.length_flatMap]
    omega
  by_cases k6 : kind = 6
  · subst k6
    have hr2 : opRest ⟨6, path, dest, at_, old, new, key, depth⟩ = key := by simp [opRest]
    rw [hr2] at hbo ⊢
    simp [s1, -List.length_flatMap]
    refine ⟨by omega, CallB.p (f_ref03_Bytes key h.key) ?_⟩
    simp [s1, -List.length_flatMap]
    omega
  have k1 : kind = 1 := by omega
  subst k1
  have hr2 : opRest ⟨1, path, dest, at_, old, new, key, depth⟩ = [] := by simp [opRest]
  rw [hr2] at hbo ⊢
  simp [s1]
  omega
end Go.Abs
end

section
namespace Go.Abs
open Go
set_option maxRecDepth 20000

set_option maxHeartbeats 4000000 in
theorem f_ref13_Right (o : POp) (h : o.Ok) : TCp Pg n_ref13_Right [popV o] (.int .i64 (opRight o)) := by
  have s1 := id_shape h.key
  have hpr := f_ref10_Right o.path h.path
  have hdr := f_ref10_Right o.dest h.dest
  have hpx := f_ref13_prefix o.path h.path
  have hln := f_ref11_Lines o.old (by have := h.old; omega) fun s hs => by have := h.olds s hs; omega
  have hhr := f_ref11_Right o h.old h.new (fun s hs => by have := h.olds s hs; omega) fun s hs => by have := h.news s hs; omega
  have ho := fun l hl => f_ref13_only o h l hl
  refine TCp.body k_ref13_Right hP rfl (by simp) rfl ?_
  by_cases h1 : o.kind < 1
  · have : opRight o = 1 := by simp [opRight, h1]
    rw [this]
    simp [c_ref13_Right, r_ref13_Right, popV, h1]
  by_cases h6 : 6 < o.kind
  · have : opRight o = 1 := by simp [opRight, h6]
    rw [this]
    simp [c_ref13_Right, r_ref13_Right, popV, h1, h6]
  have hor : opRight o = if formed o = false then 3 else if o.depth < 0 ∨ 8 < o.depth then 5 else 0 := by simp [opRight, h1, h6]
  rw [hor]
  by_cases k1 : o.kind = 1
  · have hfo : formed o = (pathRight o.path && onlyB o []) := by
      unfold formed
      rw [same_only, k1]
      simp [kindOk, k1, lettersOf]
    rw [hfo]
    replace ho := ho [] (by simp)
    generalize onlyB o [] = b0 at *
    clear hfo hor h
    obtain ⟨kind, path, dest, at_, old, new, key, depth⟩ := o
    dsimp only at *
    subst k1
    simp [c_ref13_Right, r_ref13_Right, popV]
    generalize pathRight path = b1 at *
    refine CallB.p hpr ?_
    simp [s1]
    refine CallG.of (r := .bool _) (fun q => ⟨q, ho⟩) ?_
    cases b1 <;> cases b0 <;> simp [s1]
    all_goals (by_cases h0 : depth < 0 <;> by_cases h8 : 8 < depth <;> simp [h0, h8] <;> rfl)
  by_cases k2 : o.kind = 2
  · have hfo : formed o = (pathRight o.path && linesOk o.old && onlyB o [79]) := by
      unfold formed
      rw [same_only, k2]
      simp [kindOk, k2, lettersOf, Bool.and_assoc]
    rw [hfo]
    replace ho := ho [79] (by simp)
    generalize onlyB o [79] = b0 at *
    clear hfo hor h
    obtain ⟨kind, path, dest, at_, old, new, key, depth⟩ := o
    dsimp only at *
    subst k2
    simp [c_ref13_Right, r_ref13_Right, popV]
    generalize pathRight path = b1 at *
    generalize linesOk old = b2 at *
    refine CallB.p hpr ?_
    simp
    refine CallG.of (r := .bool _) (fun q => ⟨q, hln⟩) ?_
    simp [s1]
    refine CallG.of (r := .bool _) (fun q => ⟨q, ho⟩) ?_
    cases b1 <;> cases b2 <;> cases b0 <;> simp [s1]
    all_goals (by_cases h0 : depth < 0 <;> by_cases h8 : 8 < depth <;> simp [h0, h8] <;> rfl)
  by_cases k3 : o.kind = 3
  · have hfo : formed o = (pathRight o.path && hunkOk o.at_ o.old o.new && onlyB o [65, 79, 78]) := by
      unfold formed
      rw [same_only, k3]
      simp [kindOk, k3, lettersOf, Bool.and_assoc]
    rw [hfo]
    replace ho := ho [65, 79, 78] (by simp)
    generalize onlyB o [65, 79, 78] = b0 at *
    clear hfo hor h
    obtain ⟨kind, path, dest, at_, old, new, key, depth⟩ := o
    dsimp only at *
    subst k3
    simp [c_ref13_Right, r_ref13_Right, popV]
    generalize pathRight path = b1 at *
    generalize hunkOk at_ old new = b2 at *
    refine CallB.p hpr ?_
    simp
    refine CallG.of (r := .bool _) (fun q => ⟨q, hhr⟩) ?_
    simp [s1]
    refine CallG.of (r := .bool _) (fun q => ⟨q, ho⟩) ?_
    cases b1 <;> cases b2 <;> cases b0 <;> simp [s1]
    all_goals (by_cases h0 : depth < 0 <;> by_cases h8 : 8 < depth <;> simp [h0, h8] <;> rfl)
  by_cases k4 : o.kind = 4
  · have hfo : formed o = (pathRight o.path && pathRight o.dest && !decide (o.path = o.dest) && onlyB o [84]) := by
      unfold formed
      rw [same_only, k4]
      simp [kindOk, k4, lettersOf, Bool.and_assoc]
    rw [hfo]
    replace ho := ho [84] (by simp)
    generalize onlyB o [84] = b0 at *
    clear hfo hor h
    obtain ⟨kind, path, dest, at_, old, new, key, depth⟩ := o
    dsimp only at *
    subst k4
    simp [c_ref13_Right, r_ref13_Right, popV]
    generalize pathRight path = b1 at *
    generalize pathRight dest = b2 at *
    refine CallB.p hpr ?_
    simp
    refine CallG.of (r := .bool _) (fun q => ⟨q, hdr⟩) ?_
    simp [s1]
    refine CallG.of (r := .bool _) (fun q => ⟨q, ho⟩) ?_
    generalize decide (path = dest) = b3 at *
    cases b1 <;> cases b2 <;> cases b3 <;> cases b0 <;> simp [s1]
    all_goals (by_cases h0 : depth < 0 <;> by_cases h8 : 8 < depth <;> simp [h0, h8] <;> rfl)
  by_cases k5 : o.kind = 5
  · have hfo : formed o = (prefixOk o.path && onlyB o [75, 68]) := by
      unfold formed
      rw [same_only, k5]
      simp [kindOk, k5, lettersOf]
    rw [hfo]
    replace ho := ho [75, 68] (by simp)
    generalize onlyB o [75, 68] = b0 at *
    clear hfo hor h
    obtain ⟨kind, path, dest, at_, old, new, key, depth⟩ := o
    dsimp only at *
    subst k5
    simp [c_ref13_Right, r_ref13_Right, popV]
    generalize prefixOk path = b1 at *
    refine CallB.p hpx ?_
    simp [s1]
    refine CallG.of (r := .bool _) (fun q => ⟨q, ho⟩) ?_
    cases b1 <;> cases b0 <;> simp [s1]
    all_goals (by_cases h0 : depth < 0 <;> by_cases h8 : 8 < depth <;> simp [h0, h8] <;> rfl)
  by_cases k6 : o.kind = 6
  · have hfo : formed o = (prefixOk o.path && onlyB o [75]) := by
      unfold formed
      rw [same_only, k6]
      simp [kindOk, k6, lettersOf]
    rw [hfo]
    replace ho := ho [75] (by simp)
    generalize onlyB o [75] = b0 at *
    clear hfo hor h
    obtain ⟨kind, path, dest, at_, old, new, key, depth⟩ := o
    dsimp only at *
    subst k6
    simp [c_ref13_Right, r_ref13_Right, popV]
    generalize prefixOk path = b1 at *
    refine CallB.p hpx ?_
    simp [s1]
    refine CallG.of (r := .bool _) (fun q => ⟨q, ho⟩) ?_
    cases b1 <;> cases b0 <;> simp [s1]
    all_goals (by_cases h0 : depth < 0 <;> by_cases h8 : 8 < depth <;> simp [h0, h8] <;> rfl)
  omega
end Go.Abs
end

section
namespace Go.Abs
open Go
open Go.RowKit (Below)
set_option maxRecDepth 20000

/-- Below 0, 0, above 0. -/
def cmpB (a b : List UInt8) : Int := Lib.compareBytes a b

theorem slice_bytes {P : Program} {σ : St} {a : List UInt8} {c : Value} (I : Inv σ) (h : RepV σ (.sl 1 (bytesV a) .view) c) : (Extern.Bytes.bytesOf c).run P σ.w = .ok ⟨a.toArray⟩ σ.w := by
  obtain ⟨ad, cap, rfl, g2, g3, g4⟩ := elems_flat I h rfl
  rcases g4 with g4 | ⟨b, o, cs, rfl, k1, k2⟩
  · have ha : a = [] := by simpa [bytesV] using g4
    subst ha
    cases ad <;> rfl
  · obtain ⟨ns, m1, m2, m3⟩ := byte_cells k1 (bytesV_isByte a)
    subst m1
    rw [bytesV_byte] at m3
    have := Lib.run_loadBytesX (P := P) σ.w ns ⟨b, o, none⟩ .empty (fun j x hj => by
      have := k2 j (.int .u8 x) (by simp [hj])
      have e : (⟨b, o, none⟩ : Addr).add j = ⟨b, o + j, none⟩ := by unfold Addr.add; by_cases h0 : j = 0 <;> simp [h0]
      rw [e]; exact this)
    show (Extern.Bytes.loadBytes ⟨b, o, none⟩ (bytesV a).length .empty).run P σ.w = _
    rw [← m2, this]
    congr 2
    have : Lib.bytesOf ns = a := by rw [← m3]; rfl
    rw [this]
    exact Array.empty_append

theorem some_Compare : (Pg.funcs[n_bytealg_Compare]?).isSome = true := by kernel_rfl
noncomputable def fn_Compare : Func := (Pg.funcs[n_bytealg_Compare]?).get some_Compare

theorem f_bytealg_Compare (a b : List UInt8) : TCp Pg n_bytealg_Compare [.sl 1 (bytesV a) .view, .sl 1 (bytesV b) .view] (.int .i64 (cmpB a b)) := by
  rintro H σ cargs rfl I ⟨c, d, rfl, h1, c2, d2, rfl, h2, h3⟩
  have h3 : d2 = [] := h3
  subst h3
  have hrun : (callFunc n_bytealg_Compare [c, c2].toArray).run Pg σ.w = .ok (.value (.int .i64 (cmpB a b))) σ.w := by
    rw [run_callFunc_extern (fn := fn_Compare) (Option.some_get some_Compare).symm (by kernel_rfl) (by kernel_rfl) (by kernel_rfl) (e := Extern.BytealgCompare.compare) (by kernel_rfl)]
    have : (Extern.BytealgCompare.compare [c, c2].toArray).run Pg σ.w = .ok (.int .i64 (cmpB a b)) σ.w := by
      change Sem.run Pg (do pure (goInt (Extern.BytealgCompare.cmp (← Extern.Bytes.bytesOf c) (← Extern.Bytes.bytesOf c2)))) σ.w = _
      simp only [Sem.run_bind, Sem.run_pure, slice_bytes I h1, slice_bytes I h2, Result.andThen]
      rw [Lib.cmp_eq]
      rfl
    rw [this]
    rfl
  rw [hrun]
  exact ⟨_, σ, rfl, I, repV_int.2 rfl, Tr.refl _ _, rfl, rfl⟩
end Go.Abs
end

section
namespace Go.Abs
open Go
set_option maxRecDepth 20000

theorem f_bytes_Compare (a b : Bs) : TCp Pg n_bytes_Compare [.sl 1 (bytesV a) .view, .sl 1 (bytesV b) .view] (.int .i64 (cmpB a b)) := by
  refine TCp.body k_bytes_Compare hP rfl (by simp) rfl ?_
  simp [c_bytes_Compare, r_bytes_Compare]
  refine CallB.p (f_bytealg_Compare a b) ?_
  simp

theorem f_id_compare (a b : Bs) (ha : a.length = 32) (hb : b.length = 32) : TCp Pg n_id_compare [idV a, idV b] (.int .i64 (cmpB a b)) := by
  refine TCp.body k_id_compare hP rfl (by simp) rfl ?_
  simp [c_id_compare, r_id_compare, idV, ha, hb]
  refine ⟨bytesV_shape a, bytesV_shape b, ?_⟩
  refine CallB.r (args' := [.sl 1 (bytesV a) .view, .sl 1 (bytesV b) .view]) (f_bytes_Compare a b) rfl ?_ ?_
  · have h1 : (bytesV a).take 32 = bytesV a := List.take_of_length_le (by simp [ha])
    have h2 : (bytesV b).take 32 = bytesV b := List.take_of_length_le (by simp [hb])
    simp only [List.map_cons, List.map_nil]
    rw [fz_arr (xs := bytesV a) (by simp) rfl (by simp), fz_arr (xs := bytesV b) (by simp) rfl (by simp)]
    simp [h1, h2]
  · simp

def ltB (a b : Bs) : Bool := decide (cmpB a b < 0)

theorem f_id_Less (a b : Bs) (ha : a.length = 32) (hb : b.length = 32) : TCp Pg n_id_Less [idV a, idV b] (.bool (ltB a b)) := by
  refine TCp.body k_id_Less hP rfl (by simp) rfl ?_
  have s1 := id_shape ha
  have s2 := id_shape hb
  simp [c_id_Less, r_id_Less, s1, s2]
  refine CallB.p (f_id_compare a b ha hb) ?_
  simp [ltB]

theorem cmpB_drop : ∀ (i : Nat) (a b : Bs), i ≤ a.length → i ≤ b.length → a.take i = b.take i → cmpB a b = cmpB (a.drop i) (b.drop i)
  | 0, a, b, _, _, _ => by simp
  | i + 1, x :: a, y :: b, h1, h2, h => by
    simp only [List.take_succ_cons, List.cons.injEq] at h
    obtain ⟨rfl, h⟩ := h
    have := cmpB_drop i a b (by simpa using h1) (by simpa using h2) h
    simp only [List.drop_succ_cons]
    rw [← this]
    unfold cmpB
    rw [Lib.compareBytes, if_neg (UInt8.lt_irrefl x), if_neg (UInt8.lt_irrefl x)]
  | i + 1, [], _, h1, _, _ => by simp at h1
  | i + 1, _ :: _, [], _, h2, _ => by simp at h2

theorem cmpB_self (a : Bs) : cmpB a a = 0 := by
  induction a with
  | nil => rfl
  | cons x a ih => unfold cmpB at *; rw [Lib.compareBytes, if_neg (UInt8.lt_irrefl x), if_neg (UInt8.lt_irrefl x)]; exact ih

theorem f_ref04_Less (a b : Bs) (ha : a.length = 32) (hb : b.length = 32) : TCp Pg n_ref04_Less [idV a, idV b] (.bool (ltB a b)) := by
  refine TCp.body k_ref04_Less hP rfl (by simp) rfl ?_
  simp [c_ref04_Less, r_ref04_Less]
  refine AW_wloop (fun j : Nat => [(2, .ptr 0 []), (3, .ptr 1 []), (5, .int .i64 j)]) (fun _ => [.cell (idV a), .cell (idV b)]) (fun j => j ≤ 32 ∧ a.take j = b.take j) (fun j => 32 - j) 0 ⟨Nat.zero_le _, by simp⟩ (Weak.of_eq (by simp) rfl) ?_
  rintro j ⟨hj, hno⟩
  rcases Nat.lt_or_ge j 32 with h' | h'
  · have hk1 := i64_succ j (by omega)
    have hjj : (j : Int) < 32 := by omega
    have h1 : j < a.length := by omega
    have h2 : j < b.length := by omega
    obtain ⟨x, hx, hta, hxm⟩ := at_k h1
    obtain ⟨y, hy, htb, hym⟩ := at_k h2
    have ga : (bytesV a)[j]? = some (byteV x) := by rw [← hx]; simp [bytesV]; exact ⟨_, List.getElem?_eq_getElem h1, rfl⟩
    have gb : (bytesV b)[j]? = some (byteV y) := by rw [← hy]; simp [bytesV]; exact ⟨_, List.getElem?_eq_getElem h2, rfl⟩
    have hcmp : cmpB a b = if x < y then -1 else if y < x then 1 else cmpB (a.drop (j + 1)) (b.drop (j + 1)) := by
      rw [cmpB_drop j a b (by omega) (by omega) hno, List.drop_eq_getElem_cons h1, List.drop_eq_getElem_cons h2, hx, hy]
      rfl
    simp [hjj, hk1, idV, ga, gb, ha, hb, byteV]
    refine ⟨bytesV_shape a, bytesV_shape b, ?_⟩
    by_cases e : x = y
    · subst e
      exact .inl ⟨rfl, j + 1, ⟨by omega, by rw [hta, htb, hno]⟩, by omega, by omega⟩
    · have e1 : ¬ (x.toNat : Int) = y.toNat := fun q => e (UInt8.toNat.inj (by omega))
      refine .inr ⟨e1, bytesV_shape a, bytesV_shape b, ?_⟩
      unfold ltB
      rw [hcmp]
      by_cases l1 : x < y
      · have l2 : x.toNat < y.toNat := UInt8.lt_iff_toNat_lt.1 l1
        simp [l1, l2]
      · have l2 : y < x := UInt8.lt_iff_toNat_lt.2 (by have : ¬ x.toNat < y.toNat := fun q => l1 (UInt8.lt_iff_toNat_lt.2 q); omega)
        have l3 : ¬ x.toNat < y.toNat := fun q => l1 (UInt8.lt_iff_toNat_lt.2 q)
        simp [l1, l2, l3]
  · have : j = 32 := by omega
    subst this
    have hab : a = b := by
      have e1 : a.take 32 = a := List.take_of_length_le (by omega)
      have e2 : b.take 32 = b := List.take_of_length_le (by omega)
      rw [← e1, hno, e2]
    simp [ltB, hab, cmpB_self]

/-- Does a row rise? -/
def risesB : List Bs → Bool
  | a :: b :: l => ltB a b && risesB (b :: l)
  | _ => true

theorem risesB_iff : ∀ l : List Bs, risesB l = true ↔ ∀ i, (h : i + 1 < l.length) → ltB l[i] l[i + 1] = true
  | [] => by simp [risesB]
  | [a] => by simp [risesB]
  | a :: b :: l => by
    simp only [risesB, Bool.and_eq_true, risesB_iff (b :: l)]
    constructor
    · rintro ⟨h1, h2⟩ i hi
      cases i with
      | zero => exact h1
      | succ i => exact h2 i (by simpa using hi)
    · intro h
      exact ⟨h 0 (by simp), fun i hi => h (i + 1) (by simpa using hi)⟩

theorem f_id_Rises (l : List Bs) (hl : l.length < 1100000) (h : ∀ a ∈ l, a.length = 32) : TCp Pg n_id_Rises [.sl 32 (l.map idV) .view] (.bool (risesB l)) := by
  refine TCp.body k_id_Rises hP rfl (by simp) rfl ?_
  simp [c_id_Rises, r_id_Rises]
  refine AW_wloop (fun j : Nat => [(0, .sl 32 (l.map idV) .view), (3, .int .i64 ((j + 1 : Nat) : Int))]) (fun _ => []) (fun j => j ≤ l.length ∧ ∀ i, (q : i + 1 < l.length) → i < j → ltB l[i] l[i + 1] = true) (fun j => l.length - j) 0 ⟨Nat.zero_le _, fun i _ q => by omega⟩ (Weak.of_eq (by simp) rfl) ?_
  rintro j ⟨hj, hno⟩
  rcases Nat.lt_or_ge (j + 1) l.length with h' | h'
  · have hk1 : IntKind.i64.wrap ((j : Int) + 1 + 1) = ((j + 1 + 1 : Nat) : Int) := by rw [wrap_i64 (by omega) (by omega)]; omega
    have hk0 : IntKind.i64.wrap (j : Int) = (j : Int) := i64_of j (by omega)
    have hjj : (j : Int) + 1 < l.length := by omega
    have h0 : j < l.length := by omega
    have hx : l[j] ∈ l := List.getElem_mem h0
    have hy : l[j + 1] ∈ l := List.getElem_mem h'
    have e1 := hno
    generalize hxx : l[j] = x at hx
    generalize hyy : l[j + 1] = y at hy
    have s1 := id_shape (h x hx)
    have s2 := id_shape (h y hy)
    have g1 : l[j]? = some x := by rw [List.getElem?_eq_getElem h0, hxx]
    have g2 : l[j + 1]? = some y := by rw [List.getElem?_eq_getElem h', hyy]
    simp [hjj, hk0, g1, g2, s1, s2]
    refine ⟨h0, by omega, CallQ.of (f_id_Less x y (h x hx) (h y hy)) ?_⟩
    cases e : ltB x y with
    | true =>
      simp [hk1]
      refine ⟨j + 1, ⟨h0, fun i hi hlt => ?_⟩, by omega, by omega⟩
      rcases Nat.lt_or_ge i j with q | q
      · exact hno i hi q
      · have : i = j := by omega
        subst this
        rw [hxx, hyy]; exact e
    | false =>
      have hf : risesB l = false := by
        cases hr : risesB l with
        | false => rfl
        | true =>
          have := (risesB_iff l).1 hr j h'
          rw [hxx, hyy, e] at this
          cases this
      simp [hf]
  · have hjj : ¬ (j : Int) + 1 < l.length := by omega
    simp [hjj]
    exact (risesB_iff l).2 fun i hi => hno i hi (by omega)

theorem f_ref04_Rises (l : List Bs) (hl : l.length < 1100000) (h : ∀ a ∈ l, a.length = 32) : TCp Pg n_ref04_Rises [.sl 32 (l.map idV) .view] (.bool (risesB l)) := by
  refine TCp.body k_ref04_Rises hP rfl (by simp) rfl ?_
  simp [c_ref04_Rises, r_ref04_Rises]
  refine AW_wloop (fun j : Nat => [(0, .sl 32 (l.map idV) .view), (3, .int .i64 ((j + 1 : Nat) : Int))]) (fun _ => []) (fun j => j ≤ l.length ∧ ∀ i, (q : i + 1 < l.length) → i < j → ltB l[i] l[i + 1] = true) (fun j => l.length - j) 0 ⟨Nat.zero_le _, fun i _ q => by omega⟩ (Weak.of_eq (by simp) rfl) ?_
  rintro j ⟨hj, hno⟩
  rcases Nat.lt_or_ge (j + 1) l.length with h' | h'
  · have hk1 : IntKind.i64.wrap ((j : Int) + 1 + 1) = ((j + 1 + 1 : Nat) : Int) := by rw [wrap_i64 (by omega) (by omega)]; omega
    have hk0 : IntKind.i64.wrap (j : Int) = (j : Int) := i64_of j (by omega)
    have hjj : (j : Int) + 1 < l.length := by omega
    have h0 : j < l.length := by omega
    have hx : l[j] ∈ l := List.getElem_mem h0
    have hy : l[j + 1] ∈ l := List.getElem_mem h'
    have e1 := hno
    generalize hxx : l[j] = x at hx
    generalize hyy : l[j + 1] = y at hy
    have s1 := id_shape (h x hx)
    have s2 := id_shape (h y hy)
    have g1 : l[j]? = some x := by rw [List.getElem?_eq_getElem h0, hxx]
    have g2 : l[j + 1]? = some y := by rw [List.getElem?_eq_getElem h', hyy]
    simp [hjj, hk0, g1, g2, s1, s2]
    refine ⟨h0, by omega, CallQ.of (f_ref04_Less x y (h x hx) (h y hy)) ?_⟩
    cases e : ltB x y with
    | true =>
      simp [hk1]
      refine ⟨j + 1, ⟨h0, fun i hi hlt => ?_⟩, by omega, by omega⟩
      rcases Nat.lt_or_ge i j with q | q
      · exact hno i hi q
      · have : i = j := by omega
        subst this
        rw [hxx, hyy]; exact e
    | false =>
      have hf : risesB l = false := by
        cases hr : risesB l with
        | false => rfl
        | true =>
          have := (risesB_iff l).1 hr j h'
          rw [hxx, hyy, e] at this
          cases this
      simp [hf]
  · have hjj : ¬ (j : Int) + 1 < l.length := by omega
    simp [hjj]
    exact (risesB_iff l).2 fun i hi => hno i hi (by omega)
end Go.Abs
end
