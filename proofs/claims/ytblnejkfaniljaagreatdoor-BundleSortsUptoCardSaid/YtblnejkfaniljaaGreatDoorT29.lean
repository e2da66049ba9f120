/-
  Rows of ids: contracts. Patches: whether they are right: contracts. Patches: their bytes: contracts. Patches: their bytes and their ids by the program: contracts. Patches: their bytes and their ids by the document: contracts.
  Conditions: those that stand ahead of each theorem; no more.
-/
import Derived.Test.YtblnejkfaniljaaGreatDoorT28

section
namespace Go.Abs
open Go
set_option maxRecDepth 20000

theorem f_ref04_Has (l : List Bs) (hl : l.length < 1100000) (h : ∀ a ∈ l, a.length = 32) (a : Bs) (ha : a.length = 32) : TCp Pg n_ref04_Has [.sl 32 (l.map idV) .view, idV a] (.bool (l.contains a)) := by
  have s1 := id_shape ha
  refine TCp.body k_ref04_Has hP rfl (by simp) rfl ?_
  simp [c_ref04_Has, r_ref04_Has]
  refine AW_wloop (fun j : Nat => [(0, .sl 32 (l.map idV) .view), (3, .ptr 0 []), (5, .int .i64 j)]) (fun _ => [.cell (idV a)]) (fun j => j ≤ l.length ∧ (l.take j).contains a = false) (fun j => l.length - j) 0 ⟨Nat.zero_le _, rfl⟩ (Weak.of_eq (by simp) rfl) ?_
  rintro j ⟨hj, hno⟩
  rcases Nat.lt_or_ge j l.length with h' | h'
  · have hk1 := i64_succ j (by omega)
    obtain ⟨x, hx, hta, hm⟩ := at_k h'
    have s2 := id_shape (h x hm)
    have f1 := id_fits ha
    have f2 := id_fits (h x hm)
    simp [h', hx, hk1, s1, s2, f1, f2, id_eq]
    by_cases e : x = a
    · subst e
      exact ⟨fun _ => hm, fun q => (q rfl).elim⟩
    · have hc : (l.take (j + 1)).contains a = false := by rw [hta, List.contains_append, hno]; simp [Ne.symm e]
      exact ⟨fun q => (e q).elim, fun _ => ⟨j + 1, ⟨h', by simpa using hc⟩, by omega, by omega⟩⟩
  · have : j = l.length := by omega
    subst this
    rw [List.take_length] at hno
    simp
    simpa using hno

theorem f_ref04_Only (l b : List Bs) (hl : l.length < 1100000) (hb : b.length < 1100000) (h : ∀ a ∈ l, a.length = 32) (hh : ∀ a ∈ b, a.length = 32) (has : Bool) : TCp Pg n_ref04_Only [.sl 32 (l.map idV) .view, .sl 32 (b.map idV) .view, .bool has] (.sl 32 ((l.filter fun a => b.contains a == has).map idV) .view) := by
  refine TCp.bodyV k_ref04_Only hP rfl (by simp) (by simp) ?_
  have hp : ∀ x, (fun a => b.contains a == has) x = (b.contains x == has) := fun _ => rfl
  generalize (fun a => b.contains a == has) = p at hp
  simp [c_ref04_Only, r_ref04_Only]
  refine AW_wloop (fun j : Nat => [(0, .sl 32 (l.map idV) .view), (1, .sl 32 (b.map idV) .view), (2, .bool has), (7, .sl 32 (((l.take j).filter p).map idV) (.row 0)), (8, .int .i64 j)]) (fun j => [.row ((l.take j).filter p).length 32]) (fun j => j ≤ l.length) (fun j => l.length - j) 0 (Nat.zero_le _) (Weak.open 7 32 rfl) ?_
  intro j hj
  rcases Nat.lt_or_ge j l.length with h' | h'
  · have hk1 := i64_succ j (by omega)
    obtain ⟨x, hx, hta, hm⟩ := at_k h'
    have s2 := id_shape (h x hm)
    have hfl := List.length_filter_le p (l.take j)
    have hlt : (l.take j).length ≤ l.length := by rw [List.length_take]; omega
    have hfs : (l.take (j + 1)).filter p = (l.take j).filter p ++ if p x = true then [x] else [] := by rw [hta, List.filter_append]; simp [List.filter_cons]
    rw [hp x] at hfs
    have hs2 : (idV x).shape.size = 32 := by rw [s2]; rfl
    simp [h', hx, s2]
    refine CallB.p (f_ref04_Has b hb hh x (h x hm)) ?_
    generalize b.contains x = c at *
    cases c <;> cases has <;> simp [h', hx, hk1, V.eq, TD.fits, s2]
    all_goals simp at hfs
    · exact ⟨by omega, j + 1, h', by omega, ⟨by rw [hfs]; simp, by omega⟩, by rw [hfs]; simp⟩
    · exact ⟨j + 1, h', by omega, ⟨by rw [hfs], by omega⟩, by rw [hfs]⟩
    · exact ⟨j + 1, h', by omega, ⟨by rw [hfs], by omega⟩, by rw [hfs]⟩
    · exact ⟨by omega, j + 1, h', by omega, ⟨by rw [hfs]; simp, by omega⟩, by rw [hfs]; simp⟩
  · have : j = l.length := by omega
    subst this
    simp

/-- A rising row with one more. -/
def putB (l : List Bs) (a : Bs) : List Bs := if l.contains a then l else l.takeWhile (fun x => !ltB a x) ++ a :: l.dropWhile (fun x => !ltB a x)

theorem f_ref04_Same (a b : List Bs) (hl : a.length < 1073741824) (ha : ∀ x ∈ a, x.length = 32) (hb : ∀ x ∈ b, x.length = 32) : TCp Pg n_ref04_Same [.sl 32 (a.map idV) .view, .sl 32 (b.map idV) .view] (.bool (decide (a = b))) := by
  refine TCp.body k_ref04_Same hP rfl (by simp) rfl ?_
  by_cases hlen : a.length = b.length
  · have hli : (a.length : Int) = b.length := by omega
    simp [c_ref04_Same, r_ref04_Same, hlen]
    refine AW_wloop (fun j : Nat => [(0, .sl 32 (a.map idV) .view), (1, .sl 32 (b.map idV) .view), (5, .int .i64 j)]) (fun _ => []) (fun j => j ≤ a.length ∧ a.take j = b.take j) (fun j => a.length - j) 0 ⟨Nat.zero_le _, by simp⟩ (Weak.of_eq (by simp) rfl) ?_
    rintro j ⟨hj, hno⟩
    rcases Nat.lt_or_ge j a.length with h' | h'
    · have hk1 := i64_succ j (by omega)
      have h'' : j < b.length := by omega
      obtain ⟨x, hx, hta, hxm⟩ := at_k h'
      obtain ⟨y, hy, htb, hym⟩ := at_k h''
      have hne := take_ne hta htb
      simp [h', h'', hx, hy, id_eq, id_fits (ha x hxm), id_fits (hb y hym), id_shape (ha x hxm), id_shape (hb y hym)]
      by_cases e : x = y
      · subst e
        simp [hk1]
        exact ⟨j + 1, ⟨h', by rw [hta, htb, hno]⟩, by omega, by omega⟩
      · simp [e, hne e]
    · have : j = a.length := by omega
      subst this
      have hab : a = b := by
        have h1 : a.take a.length = a := List.take_length
        have h2 : b.take a.length = b := by rw [hlen]; exact List.take_length
        rw [← h1, hno, h2]
      simp [hab]
  · have hli : ¬ (a.length : Int) = b.length := by omega
    have hne : ¬ a = b := fun e => hlen (by rw [e])
    simp [c_ref04_Same, r_ref04_Same, hli, hne]

theorem f_ref05_Same (a b : List Bs) (hl : a.length < 1073741824) : TCp Pg n_ref05_Same [.sl 1 (a.map strV) .view, .sl 1 (b.map strV) .view] (.bool (decide (a = b))) := by
  refine TCp.body k_ref05_Same hP rfl (by simp) rfl ?_
  by_cases hlen : a.length = b.length
  · have hli : (a.length : Int) = b.length := by omega
    simp [c_ref05_Same, r_ref05_Same, hlen]
    refine AW_wloop (fun j : Nat => [(0, .sl 1 (a.map strV) .view), (1, .sl 1 (b.map strV) .view), (5, .int .i64 j)]) (fun _ => []) (fun j => j ≤ a.length ∧ a.take j = b.take j) (fun j => a.length - j) 0 ⟨Nat.zero_le _, by simp⟩ (Weak.of_eq (by simp) rfl) ?_
    rintro j ⟨hj, hno⟩
    rcases Nat.lt_or_ge j a.length with h' | h'
    · have hk1 := i64_succ j (by omega)
      have h'' : j < b.length := by omega
      obtain ⟨x, hx, hta, hxm⟩ := at_k h'
      obtain ⟨y, hy, htb, hym⟩ := at_k h''
      have hne := take_ne hta htb
      simp [h', h'', hx, hy, strV]
      by_cases e : x = y
      · subst e
        simp [hk1]
        exact ⟨j + 1, ⟨h', by rw [hta, htb, hno]⟩, by omega, by omega⟩
      · simp [e, hne e]
    · have : j = a.length := by omega
      subst this
      have hab : a = b := by
        have h1 : a.take a.length = a := List.take_length
        have h2 : b.take a.length = b := by rw [hlen]; exact List.take_length
        rw [← h1, hno, h2]
      simp [hab]
  · have hli : ¬ (a.length : Int) = b.length := by omega
    have hne : ¬ a = b := fun e => hlen (by rw [e])
    simp [c_ref05_Same, r_ref05_Same, hli, hne]

theorem f_id_Same (a b : List Bs) (hl : a.length < 1073741824) (ha : ∀ x ∈ a, x.length = 32) (hb : ∀ x ∈ b, x.length = 32) : TCp Pg n_id_Same [.sl 32 (a.map idV) .view, .sl 32 (b.map idV) .view] (.bool (decide (a = b))) := by
  refine TCp.body k_id_Same hP rfl (by simp) rfl ?_
  simp [c_id_Same, r_id_Same]
  refine CallB.p (f_slices_Equal_Id a b hl ha hb) ?_
  simp
end Go.Abs
end

section
namespace Go.Abs
open Go
set_option maxRecDepth 20000

structure IdsOk (l : List Bs) : Prop where
  len : l.length < 1100000
  ids : ∀ a ∈ l, a.length = 32
structure Sig.Ok (x : Sig) : Prop where
  shown : IdsOk x.shown
  hidden : IdsOk x.hidden
  way : IdsOk x.way
structure Patch.Ok (p : Patch) : Prop where
  key : p.key.length = 32
  deps : IdsOk p.deps
  note : p.note.length < 1100000
  olen : p.ops.length < 1100000
  ops : ∀ o ∈ p.ops, o.Ok
  sign : p.sign.Ok

/-- The first operation that is wrong. -/
def opsRight : List POp → Int
  | [] => 0
  | o :: l => if opRight o = 0 then opsRight l else opRight o
def patchRight (p : Patch) : Int :=
  if 16 < p.deps.length then 4 else if risesB p.deps = false then 17 else if 400 < p.note.length then 4 else if p.ops.length = 0 then 1 else if 32 < p.ops.length then 4 else opsRight p.ops

theorem opsRight_ok {l : List POp} (h : ∀ o ∈ l, opRight o = 0) : opsRight l = 0 := by
  induction l with
  | nil => rfl
  | cons o l ih => rw [opsRight, if_pos (h o (by simp)), ih fun q hq => h q (by simp [hq])]
theorem opsRight_bad : ∀ {l : List POp} {j : Nat} (hj : j < l.length), (∀ i, (h : i < l.length) → i < j → opRight l[i] = 0) → ¬ opRight l[j] = 0 → opsRight l = opRight l[j]
  | o :: l, 0, _, _, hb => by
    have hb : ¬ opRight o = 0 := hb
    show (if opRight o = 0 then opsRight l else opRight o) = opRight o
    rw [if_neg hb]
  | o :: l, j + 1, hj, h, hb => by
    have h0 : opRight o = 0 := h 0 (by simp) (by omega)
    show (if opRight o = 0 then opsRight l else opRight o) = _
    rw [if_pos h0]
    exact opsRight_bad (by simpa using hj) (fun i hi hlt => h (i + 1) (by simpa using hi) (by omega)) hb

set_option maxHeartbeats 2000000 in
theorem f_patch_Right (p : Patch) (h : p.Ok) : TCp Pg n_patch_Right [patchV p] (.int .i64 (patchRight p)) := by
  have s1 := id_shape h.key
  refine TCp.body k_patch_Right hP rfl (by simp) rfl ?_
  obtain ⟨deps, key, note, ops, sign⟩ := p
  have hd := h.deps
  have ho := h.ops
  have hol := h.olen
  dsimp only at *
  by_cases d1 : 16 < deps.length
  · have i1 : 16 < (deps.length : Int) := by omega
    simp [c_patch_Right, r_patch_Right, patchV, i1, patchRight, d1]
  have i1 : ¬ 16 < (deps.length : Int) := by omega
  simp [c_patch_Right, r_patch_Right, patchV, i1]
  refine CallB.p (f_id_Rises deps hd.len hd.ids) ?_
  cases d2 : risesB deps with
  | false => simp [patchRight, d1, d2]
  | true =>
    by_cases d3 : 400 < note.length
    · have i3 : 400 < (note.length : Int) := by omega
      simp [patchRight, d1, d2, d3, i3, s1]
    have i3 : ¬ 400 < (note.length : Int) := by omega
    by_cases d4 : ops = []
    · simp [patchRight, d1, d2, d3, i3, s1, d4]
    have d4' : ¬ ops.length = 0 := fun q => d4 (List.length_eq_zero_iff.1 q)
    have i4 : ¬ (ops.length : Int) = 0 := by omega
    by_cases d5 : 32 < ops.length
    · have i5 : 32 < (ops.length : Int) := by omega
      simp [patchRight, d1, d2, d3, i3, s1, d4, d5, i5]
    have i5 : ¬ 32 < (ops.length : Int) := by omega
    have hpr : patchRight ⟨deps, key, note, ops, sign⟩ = opsRight ops := by simp [patchRight, d1, d2, d3, d4, d5]
    rw [hpr]
    simp [d4, i3, i5, s1]
    refine AW_wloopW (fun j : Nat => [(32, .sl 39 (ops.map popV) .view), (33, .int .i64 ops.length), (34, .int .i64 j)]) (fun _ => []) (fun j => j ≤ ops.length ∧ ∀ i, (q : i < ops.length) → i < j → opRight ops[i] = 0) (fun j => ops.length - j) 0 ⟨Nat.zero_le _, fun i _ q => by omega⟩
      (Weak.cut (H := []) (Nat.le_refl _) (by simp) rfl) ?_
    rintro j ⟨hj, hno⟩
    rcases Nat.lt_or_ge j ops.length with h' | h'
    · have hk1 := i64_succ j (by omega)
      have hm : ops[j] ∈ ops := List.getElem_mem h'
      have hbad := opsRight_bad h' hno
      generalize hx : ops[j] = x at hm hbad
      have s2 := pop_shape (ho x hm).key
      simp [h', hx, s2]
      refine CallB.p (f_op_Right x (ho x hm)) ?_
      by_cases e : opRight x = 0
      · simp [e, hk1]
        refine ⟨j + 1, ⟨h', fun i hi hlt => ?_⟩, by omega, Weak.trans (Weak.cut (H := []) (Nat.le_refl _) (by simp) rfl) (Weak.of_eq (by simp) rfl)⟩
        rcases Nat.lt_or_ge i j with q | q
        · exact hno i hi q
        · have : i = j := by omega
          subst this
          rw [hx]; exact e
      · simp [e, hbad e]
    · have : j = ops.length := by omega
      subst this
      simp
      exact (opsRight_ok fun o hm => by
        obtain ⟨i, hi, rfl⟩ := List.mem_iff_getElem.1 hm
        exact hno i hi hi).symm

set_option maxHeartbeats 2000000 in
theorem f_ref15_Right (p : Patch) (h : p.Ok) : TCp Pg n_ref15_Right [patchV p] (.int .i64 (patchRight p)) := by
  have s1 := id_shape h.key
  refine TCp.body k_ref15_Right hP rfl (by simp) rfl ?_
  obtain ⟨deps, key, note, ops, sign⟩ := p
  have hd := h.deps
  have ho := h.ops
  have hol := h.olen
  dsimp only at *
  by_cases d1 : 16 < deps.length
  · have i1 : 16 < (deps.length : Int) := by omega
    simp [c_ref15_Right, r_ref15_Right, patchV, i1, patchRight, d1]
  have i1 : ¬ 16 < (deps.length : Int) := by omega
  simp [c_ref15_Right, r_ref15_Right, patchV, i1]
  refine CallB.p (f_ref04_Rises deps hd.len hd.ids) ?_
  cases d2 : risesB deps with
  | false => simp [patchRight, d1, d2]
  | true =>
    by_cases d3 : 400 < note.length
    · have i3 : 400 < (note.length : Int) := by omega
      simp [patchRight, d1, d2, d3, i3, s1]
    have i3 : ¬ 400 < (note.length : Int) := by omega
    by_cases d4 : ops = []
    · simp [patchRight, d1, d2, d3, i3, s1, d4]
    have d4' : ¬ ops.length = 0 := fun q => d4 (List.length_eq_zero_iff.1 q)
    have i4 : ¬ (ops.length : Int) = 0 := by omega
    by_cases d5 : 32 < ops.length
    · have i5 : 32 < (ops.length : Int) := by omega
      simp [patchRight, d1, d2, d3, i3, s1, d4, d5, i5]
    have i5 : ¬ 32 < (ops.length : Int) := by omega
    have hpr : patchRight ⟨deps, key, note, ops, sign⟩ = opsRight ops := by simp [patchRight, d1, d2, d3, d4, d5]
    rw [hpr]
    simp [d4, i3, i5, s1]
    refine AW_wloop (fun j : Nat => [(1, .ptr 0 []), (3, .int .i64 j)]) (fun _ => [.cell (patchV ⟨deps, key, note, ops, sign⟩)]) (fun j => j ≤ ops.length ∧ ∀ i, (q : i < ops.length) → i < j → opRight ops[i] = 0) (fun j => ops.length - j) 0 ⟨Nat.zero_le _, fun i _ q => by omega⟩ (Weak.of_eq (by simp) (by simp [patchV])) ?_
    rintro j ⟨hj, hno⟩
    rcases Nat.lt_or_ge j ops.length with h' | h'
    · have hk1 := i64_succ j (by omega)
      have hm : ops[j] ∈ ops := List.getElem_mem h'
      have hbad := opsRight_bad h' hno
      generalize hx : ops[j] = x at hm hbad
      have s2 := pop_shape (ho x hm).key
      simp [h', hx, s2, patchV, s1]
      refine CallB.p (f_ref13_Right x (ho x hm)) ?_
      by_cases e : opRight x = 0
      · simp [e, hk1]
        refine ⟨j + 1, ⟨h', fun i hi hlt => ?_⟩, by omega, by omega⟩
        rcases Nat.lt_or_ge i j with q | q
        · exact hno i hi q
        · have : i = j := by omega
          subst this
          rw [hx]; exact e
      · simp [e, hbad e]
    · have : j = ops.length := by omega
      subst this
      simp [patchV, s1]
      exact (opsRight_ok fun o hm => by
        obtain ⟨i, hi, rfl⟩ := List.mem_iff_getElem.1 hm
        exact hno i hi hi).symm

end Go.Abs
end

section
namespace Go.Abs
open Go
set_option maxRecDepth 20000

def bodyB (p : Patch) : Bs := (numB p.deps.length ++ p.deps.flatten) ++ p.key ++ textB p.note ++ numB p.ops.length ++ p.ops.flatMap opB

theorem texts_le (l : List POp) : l.length ≤ (l.flatMap opB).length := by
  induction l with
  | nil => exact Nat.le_refl _
  | cons a l ih =>
    rw [List.flatMap_cons, List.length_append, List.length_cons]
    have : 1 ≤ (opB a).length := by simp [opB]
    omega

section
variable {H : HP} {t k : Nat} {s : Bs}
set_option maxHeartbeats 2000000 in
theorem f_patch_body (ht : t < H.length) (hk : k < H.length) (hn : t ≠ k) (p : Patch) (h : p.Ok) (hr : ∀ o ∈ p.ops, opRight o = 0) (hb : (bodyB p).length < 100000000) (hs : s.length < 100000000) :
    TC Pg n_patch_body [.ptr t [], patchV p] (wH H t k s) fun _ H' => H' = wH H t k (s ++ bodyB p) := by
  have s1 := id_shape h.key
  have hkl : p.key.length = 32 := h.key
  have hfl := flat_len p.deps h.deps.ids
  have hbl : (bodyB p).length = (numB p.deps.length).length + p.deps.flatten.length + p.key.length + (textB p.note).length + (numB p.ops.length).length + (p.ops.flatMap opB).length := by
    simp only [bodyB, List.length_append]
  have hnl := textB_len p.note
  refine TC.bodyW k_patch_body hP rfl fun hU => ?_
  generalize hQ : (fun (_ : V) (H' : HP) => H' = wH H t k (s ++ bodyB p)) = Q
  have happ : ∀ e : Bs, wH (H ++ [Blk.cell (patchV p)]) t k e = wH H t k e ++ [Blk.cell (patchV p)] := fun e => wH_append ht hk
  have ht1 : t < (H ++ [Blk.cell (patchV p)]).length := by rw [List.length_append]; omega
  have hk1 : k < (H ++ [Blk.cell (patchV p)]).length := by rw [List.length_append]; omega
  have g4 : ∀ e : Bs, (wH (H ++ [Blk.cell (patchV p)]) t k e)[H.length]? = some (.cell (patchV p)) := fun e => by rw [wH_ne (by omega) (by omega)]; simp
  have hq : bodyB p = (numB p.deps.length ++ p.deps.flatten) ++ p.key ++ textB p.note ++ numB p.ops.length ++ p.ops.flatMap opB := rfl
  have hd := h.deps
  have ho := h.ops
  obtain ⟨deps, key, note, ops, sign⟩ := p
  simp only [patchV] at happ g4 ht1 hk1
  dsimp only at *
  generalize hH1 : H ++ [Blk.cell (V.agg [V.sl 32 (List.map idV deps) Tok.view, idV key, V.str note, V.sl 39 (List.map popV ops) Tok.view, sigV sign])] = H1 at *
  simp [c_patch_body, r_patch_body, patchV, wH_length, ← happ, g4]
  refine CallB.w (f_Writer_Ids (s := s) ht1 hk1 hn deps hd.len hd.ids (by omega)) ?_
  rintro _ _ rfl
  simp [g4, s1]
  refine CallB.ww (f_Writer_Id (s := s ++ (numB deps.length ++ deps.flatten)) ht1 hk1 hn key h.key (by simp only [List.length_append]; omega)) (by simp) ?_
  rintro _ _ rfl
  simp [g4, s1]
  refine CallB.ww (f_Writer_Text (s := s ++ (numB deps.length ++ deps.flatten) ++ key) ht1 hk1 hn note (by simp only [List.length_append]; omega)) (by simp) ?_
  rintro _ _ rfl
  simp [g4, s1]
  have hol := texts_le ops
  refine CallB.ww (f_Writer_Num (s := s ++ (numB deps.length ++ deps.flatten) ++ key ++ textB note) ht1 hk1 hn ops.length (by omega) (by simp only [List.length_append]; omega)) (by simp [textB]) ?_
  rintro _ _ ⟨rfl, rfl⟩
  simp [g4, s1]
  generalize hS : s ++ (numB deps.length ++ deps.flatten) ++ key ++ textB note ++ numB ops.length = S
  have hSl : S.length = s.length + (numB deps.length).length + deps.flatten.length + key.length + (textB note).length + (numB ops.length).length := by
    rw [← hS]; simp only [List.length_append]; omega
  have hUe : ∀ e : Bs, underH H.length (wH H t k e) = true := fun e => by
    rw [← wH_set (s := s) hn rfl]
    exact underH_set (underH_setRow hU) (by simp [V.under, V.underL, hk])
  refine AW_wloopW (fun j : Nat => [(0, .ptr t []), (24, .sl 39 (ops.map popV) .view), (25, .int .i64 ops.length), (26, .int .i64 j)]) (fun j => wH H t k (S ++ (ops.take j).flatMap opB)) (fun j => j ≤ ops.length) (fun j => ops.length - j) 0 (Nat.zero_le _)
    (Weak.trans (Weak.of_eq rfl (by rw [happ])) (Weak.trans (Weak.cut (by rw [wH_length]; exact Nat.le_refl _) (by simp [wH_length, V.under, ht]) (by rw [wH_length]; exact hUe _)) (Weak.of_eq (by simp) (by rw [← hS]; simp [textB])))) ?_
  intro j hj
  rcases Nat.lt_or_ge j ops.length with h' | h'
  · have hk2 := i64_succ j (by omega)
    obtain ⟨x, hx, hta, hm⟩ := at_k h'
    have s2 := pop_shape (ho x hm).key
    have hle := flatMap_take_le opB ops (j + 1)
    rw [hta, List.flatMap_append, List.length_append] at hle
    have hx1 : ([x].flatMap opB).length = (opB x).length := by simp
    have ht2 : t < (H ++ [Blk.cell (popV x)]).length := by rw [List.length_append]; omega
    have hk3 : k < (H ++ [Blk.cell (popV x)]).length := by rw [List.length_append]; omega
    have g5 : ∀ e : Bs, (wH H t k e ++ [Blk.cell (popV x)])[H.length]? = some (.cell (popV x)) := fun e => by rw [List.getElem?_append_right (by rw [wH_length]; exact Nat.le_refl _), wH_length, Nat.sub_self]; rfl
    simp [h', hx, s2, wH_length]
    rw [← wH_append ht hk]
    refine CallB.w (f_op_Put (s := S ++ (ops.take j).flatMap opB) ht2 hk3 hn x (ho x hm) (hr x hm) (by omega) (by rw [List.length_append]; omega)) ?_
    rintro _ _ rfl
    simp [hk2]
    refine ⟨j + 1, h', by omega, ?_⟩
    rw [wH_append ht hk]
    refine Weak.trans (Weak.cut (by rw [wH_length]; exact Nat.le_refl _) (by simp [wH_length, V.under, ht]) (by rw [wH_length]; exact hUe _)) (Weak.of_eq (by simp) (by rw [hta]; simp))
  · have : j = ops.length := by omega
    subst this
    simp
    refine wH_done (e := s ++ bodyB ⟨deps, key, note, ops, sign⟩) hU ht hk hn ?_ (by rw [← hQ])
    rw [hq, ← hS]
    simp
end
end Go.Abs
end

section
namespace Go.Abs
open Go
set_option maxRecDepth 20000

def sigB (x : Sig) : Bs := numB x.leaf.toNat ++ (numB x.shown.length ++ x.shown.flatten) ++ (numB x.hidden.length ++ x.hidden.flatten) ++ (numB x.way.length ++ x.way.flatten)

theorem opsRight_zero {l : List POp} (h : opsRight l = 0) : ∀ o ∈ l, opRight o = 0 := by
  induction l with
  | nil => intro o ho; simp at ho
  | cons a l ih =>
    rw [opsRight] at h
    split at h
    · rename_i ha
      intro o ho
      rcases List.mem_cons.1 ho with rfl | ho
      · exact ha
      · exact ih h o ho
    · rename_i ha; exact (ha h).elim
theorem right_ops {p : Patch} (h : patchRight p = 0) : ∀ o ∈ p.ops, opRight o = 0 := by
  unfold patchRight at h
  repeat' split at h
  all_goals first | (cases h; done) | exact opsRight_zero h

theorem f_patch_Body (p : Patch) (h : p.Ok) (hb : (bodyB p).length < 100000000) : TCp Pg n_patch_Body [patchV p] (.tup [.str (if patchRight p = 0 then bodyB p else []), .int .i64 (patchRight p)]) := by
  have s1 := patch_shape h.key
  have hs : (patchV p).shape.size = 39 := by rw [s1]; rfl
  refine TCp.body k_patch_Body hP rfl (by simp) rfl ?_
  simp [c_patch_Body, r_patch_Body, hs]
  refine CallB.p (f_patch_Right p h) ?_
  by_cases e : patchRight p = 0
  · simp [e, hs]
    refine CallB.w (TC.open (t := 1) rfl (f_patch_body (H := [Blk.cell (patchV p), Blk.cell (V.agg [V.sl 1 [] Tok.full])] ++ [.row 0 1]) (t := 1) (k := 2) (s := []) (by simp) (by simp) (by omega) p h (right_ops e) hb (by simp))) ?_
    rintro _ _ rfl
    simp
    refine CallB.w (f_Writer_String (H := [Blk.cell (patchV p), Blk.cell (V.agg [V.sl 1 [] Tok.full])] ++ [.row 0 1]) (t := 1) (k := 2) (by simp) (by simp) (by omega)) ?_
    rintro _ _ ⟨rfl, rfl⟩
    simp [e]
  · simp [e]

section
variable {H : HP} {t k : Nat} {s : Bs}
set_option maxHeartbeats 2000000 in
theorem f_signer_Put (ht : t < H.length) (hk : k < H.length) (hn : t ≠ k) (x : Sig) (h : x.Ok) (hw : written x = true) (hb : (sigB x).length < 100000000) (hs : s.length < 100000000) :
    TC Pg n_signer_Put [.ptr t [], sigV x] (wH H t k s) fun _ H' => H' = wH H t k (s ++ sigB x) := by
  have hl : 0 ≤ x.leaf ∧ x.leaf ≤ 4611686018427387904 := by simp [written] at hw; omega
  have hbl : (sigB x).length = (numB x.leaf.toNat).length + ((numB x.shown.length).length + x.shown.flatten.length) + ((numB x.hidden.length).length + x.hidden.flatten.length) + ((numB x.way.length).length + x.way.flatten.length) := by
    simp only [sigB, List.length_append]
  refine TC.bodyW k_signer_Put hP rfl fun hU => ?_
  generalize hQ : (fun (_ : V) (H' : HP) => H' = wH H t k (s ++ sigB x)) = Q
  have happ : ∀ e : Bs, wH (H ++ [Blk.cell (sigV x)]) t k e = wH H t k e ++ [Blk.cell (sigV x)] := fun e => wH_append ht hk
  have ht1 : t < (H ++ [Blk.cell (sigV x)]).length := by rw [List.length_append]; omega
  have hk1 : k < (H ++ [Blk.cell (sigV x)]).length := by rw [List.length_append]; omega
  have g4 : ∀ e : Bs, (wH (H ++ [Blk.cell (sigV x)]) t k e)[H.length]? = some (.cell (sigV x)) := fun e => by rw [wH_ne (by omega) (by omega)]; simp
  have hfin : ∀ (X : HP) (r : V), X = wH (H ++ [Blk.cell (sigV x)]) t k (s ++ sigB x) → ∃ H', (∃ x, X = H' ++ x) ∧ H'.length = H.length ∧ underH H.length H' = true ∧ Q r H' := by
    intro X r hX
    exact wH_doneL (e := s ++ sigB x) hU ht hk hn (hX.trans (happ _)) (by rw [← hQ])
  have hq : sigB x = numB x.leaf.toNat ++ (numB x.shown.length ++ x.shown.flatten) ++ (numB x.hidden.length ++ x.hidden.flatten) ++ (numB x.way.length ++ x.way.flatten) := rfl
  rw [hq] at hfin
  have h1 := h.shown
  have h2 := h.hidden
  have h3 := h.way
  obtain ⟨leaf, shown, hidden, way⟩ := x
  dsimp only at *
  obtain ⟨n, hn0⟩ : ∃ n : Nat, leaf = n := ⟨leaf.toNat, by omega⟩
  subst hn0
  simp only [sigV] at happ g4 ht1 hk1 hfin
  generalize hH1 : H ++ [Blk.cell (V.agg [V.int IntKind.i64 n, V.sl 32 (List.map idV shown) Tok.view, V.sl 32 (List.map idV hidden) Tok.view, V.sl 32 (List.map idV way) Tok.view])] = H1 at *
  simp [c_signer_Put, r_signer_Put, sigV, wH_length, ← happ, g4]
  refine CallB.w (f_Writer_Num (s := s) ht1 hk1 hn n (by omega) (by omega)) ?_
  rintro _ _ ⟨rfl, rfl⟩
  simp [g4]
  simp only [Int.toNat_natCast] at hbl hfin
  refine CallB.w (f_Writer_Ids (s := s ++ numB n) ht1 hk1 hn shown h1.len h1.ids (by rw [List.length_append]; omega)) ?_
  rintro _ _ rfl
  simp [g4]
  refine CallB.ww (f_Writer_Ids (s := s ++ numB n ++ (numB shown.length ++ shown.flatten)) ht1 hk1 hn hidden h2.len h2.ids (by simp only [List.length_append]; omega)) (by simp) ?_
  rintro _ _ rfl
  simp [g4]
  refine CallB.ww (f_Writer_Ids (s := s ++ numB n ++ (numB shown.length ++ shown.flatten) ++ (numB hidden.length ++ hidden.flatten)) ht1 hk1 hn way h3.len h3.ids (by simp only [List.length_append]; omega)) (by simp) ?_
  rintro _ _ rfl
  simp
  exact hfin _ _ (by simp)
end

/-- What is wrong with a patch's bytes. -/
def bytesErr (p : Patch) : Int := if patchRight p = 0 then (if written p.sign = true then 0 else 3) else patchRight p
def bytesB (p : Patch) : Bs := bodyB p ++ sigB p.sign

theorem sig_shape (x : Sig) : (sigV x).shape = .agg [.one, .one, .one, .one] := rfl
@[simp] theorem sig_isAgg (x : Sig) : isAggV (sigV x) = true := rfl
@[simp high] theorem sig_un (x : Sig) : (sigV x).un = (true, sigV x) := rfl
@[simp high] theorem sig_plain (x : Sig) : (sigV x).plain = true := rfl
@[simp] theorem sig_vw (x : Sig) : (sigV x).vw = sigV x := (clo_sig x).vw
@[simp] theorem sig_under (x : Sig) (m : Nat) : (sigV x).under m = true := (clo_sig x).under m
@[simp] theorem sig_fzW (d : Nat → Bool) (H : HP) (F : Option (V → V)) (x : Sig) : fzW d H F (sigV x) = sigV x := (clo_sig x).fzW d H F

theorem f_patch_Bytes (p : Patch) (h : p.Ok) (hb : (bytesB p).length < 100000000) : TCp Pg n_patch_Bytes [patchV p] (.tup [.str (if bytesErr p = 0 then bytesB p else []), .int .i64 (bytesErr p)]) := by
  have s1 := patch_shape h.key
  have s2 := id_shape h.key
  have hs : (patchV p).shape.size = 39 := by rw [s1]; rfl
  have hbl : (bytesB p).length = (bodyB p).length + (sigB p.sign).length := by simp [bytesB]
  have hbody := f_patch_Body p h (by omega)
  refine TCp.body k_patch_Bytes hP rfl (by simp) rfl ?_
  simp [c_patch_Bytes, r_patch_Bytes, hs]
  refine CallB.p hbody ?_
  by_cases e : patchRight p = 0
  · simp [e]
    have hpv : patchV p = .agg [.sl 32 (p.deps.map idV) .view, idV p.key, .str p.note, .sl 39 (p.ops.map popV) .view, sigV p.sign] := rfl
    rw [hpv]
    simp [s2, sig_shape]
    refine CallB.p (f_patch_written p.sign) ?_
    cases hw : written p.sign with
    | false =>
      have he : bytesErr p = 3 := by simp [bytesErr, e, hw]
      simp [he]
    | true =>
      have he : bytesErr p = 0 := by simp [bytesErr, e, hw]
      simp [he, s2, sig_shape]
      have hrw := TC.open (P := Pg) (f := n_signer_Put) (t := 1) (H := [Blk.cell (V.agg [V.sl 32 (List.map idV p.deps) Tok.view, idV p.key, V.str p.note, V.sl 39 (List.map popV p.ops) Tok.view, sigV p.sign]), Blk.cell (V.agg [V.sl 1 [] Tok.full])]) rfl
        (f_signer_Put (H := [Blk.cell (V.agg [V.sl 32 (List.map idV p.deps) Tok.view, idV p.key, V.str p.note, V.sl 39 (List.map popV p.ops) Tok.view, sigV p.sign]), Blk.cell (V.agg [V.sl 1 [] Tok.full])] ++ [.row 0 1]) (t := 1) (k := 2) (s := []) (by simp) (by simp) (by omega) p.sign h.sign hw (by omega) (by simp))
      refine CallB.w hrw ?_
      rintro _ _ rfl
      simp
      refine CallB.w (f_Writer_String (H := [Blk.cell (V.agg [V.sl 32 (List.map idV p.deps) Tok.view, idV p.key, V.str p.note, V.sl 39 (List.map popV p.ops) Tok.view, sigV p.sign]), Blk.cell (V.agg [V.sl 1 [] Tok.full])] ++ [.row 0 1]) (t := 1) (k := 2) (by simp) (by simp) (by omega)) ?_
      rintro _ _ ⟨rfl, rfl⟩
      simp [bytesB]
      omega
  · have he : bytesErr p = patchRight p := by simp [bytesErr, e]
    simp [e, he]

def zeroId : Bs := List.replicate 32 0

theorem f_patch_sum (name : Bs) (s : Bs) (e : Int) (hn : name.length ≤ 255) (hT : (tagText name [s]).length < 1073741000) : TCp Pg n_patch_sum [.str name, .str s, .int .i64 e] (.tup [idV (if e = 0 then tagOf name [s] else zero32), .int .i64 e]) := by
  refine TCp.body k_patch_sum hP rfl rfl (by simp [V.under, V.underL]) ?_
  by_cases h0 : e = 0
  · subst h0
    simp [c_patch_sum, r_patch_sum]
    refine CallB.p (f_tag_Of name [s] hn hT) ?_
    have h32 : (tagOf name [s]).length = 32 := sha_length _
    generalize tagOf name [s] = b at h32
    simp [id_shape h32]
  · simp [c_patch_sum, r_patch_sum, h0]
    rfl

def patchId (p : Patch) : Bs := tagOf [105, 100] [bytesB p]

theorem f_patch_Id (p : Patch) (h : p.Ok) (hb : (bytesB p).length < 100000000) : TCp Pg n_patch_Id [patchV p] (.tup [idV (if bytesErr p = 0 then patchId p else zero32), .int .i64 (bytesErr p)]) := by
  have s1 := patch_shape h.key
  have hs : (patchV p).shape.size = 39 := by rw [s1]; rfl
  refine TCp.body k_patch_Id hP rfl (by simp) (by simp [V.under, V.underL]) ?_
  simp [c_patch_Id, r_patch_Id, hs]
  refine CallB.p (f_patch_Bytes p h hb) ?_
  simp
  have ht : (tagText [105, 100] [if bytesErr p = 0 then bytesB p else []]).length < 1073741000 := by
    have : (if bytesErr p = 0 then bytesB p else []).length < 100000000 := by
      split
      · omega
      · simp
    generalize (if bytesErr p = 0 then bytesB p else []) = b at this
    simp [tagText, sized, beLow_length]
    omega
  refine CallB.p (f_patch_sum [105, 100] _ (bytesErr p) (by simp) ht) ?_
  by_cases e : bytesErr p = 0
  · have h32 : (tagOf [105, 100] [bytesB p]).length = 32 := sha_length _
    simp [e, patchId, id_shape h32]
  · simp [e, id_shape (show zero32.length = 32 from rfl)]
end Go.Abs
end

section
namespace Go.Abs
open Go
set_option maxRecDepth 20000

theorem f_ref08_Bytes (x : Sig) (h : x.Ok) (hw : written x = true) (hb : (sigB x).length < 100000000) : TCp Pg n_ref08_Bytes [sigV x] (.str (sigB x)) := by
  have hl : 0 ≤ x.leaf ∧ x.leaf ≤ 4611686018427387904 := by simp [written] at hw; omega
  have hbl : (sigB x).length = (numB x.leaf.toNat).length + ((numB x.shown.length).length + x.shown.flatten.length) + ((numB x.hidden.length).length + x.hidden.flatten.length) + ((numB x.way.length).length + x.way.flatten.length) := by
    simp only [sigB, List.length_append]
  have h1 := h.shown
  have h2 := h.hidden
  have h3 := h.way
  refine TCp.body k_ref08_Bytes hP rfl (by simp) rfl ?_
  obtain ⟨leaf, shown, hidden, way⟩ := x
  dsimp only at *
  obtain ⟨n, hn0⟩ : ∃ n : Nat, leaf = n := ⟨leaf.toNat, by omega⟩
  subst hn0
  have q1 : ¬ ((n : Int) < 0) := by omega
  have q2 : ¬ (4611686018427387904 < (n : Int)) := by omega
  simp [c_ref08_Bytes, r_ref08_Bytes, sigV, q1, q2]
  simp only [Int.toNat_natCast] at hbl
  refine CallQ.of (f_ref05_Num n (by omega)) ?_
  simp
  refine CallQ.of (f_ref05_Ids shown h1.len h1.ids) ?_
  simp [-List.length_flatten]
  refine ⟨by omega, CallQ.of (f_ref05_Ids hidden h2.len h2.ids) ?_⟩
  simp [-List.length_flatten]
  refine ⟨by omega, CallQ.of (f_ref05_Ids way h3.len h3.ids) ?_⟩
  simp [sigB, -List.length_flatten]
  omega

set_option maxHeartbeats 2000000 in
theorem f_ref15_Body (p : Patch) (h : p.Ok) (hr : ∀ o ∈ p.ops, opRight o = 0) (hb : (bodyB p).length < 100000000) : TCp Pg n_ref15_Body [patchV p] (.str (bodyB p)) := by
  have s1 := id_shape h.key
  have hkl : p.key.length = 32 := h.key
  have hfl := flat_len p.deps h.deps.ids
  have hbl : (bodyB p).length = (numB p.deps.length).length + p.deps.flatten.length + p.key.length + (textB p.note).length + (numB p.ops.length).length + (p.ops.flatMap opB).length := by
    simp only [bodyB, List.length_append]
  have hnl := textB_len p.note
  have hd := h.deps
  have ho := h.ops
  have hol := texts_le p.ops
  have hq : bodyB p = (numB p.deps.length ++ p.deps.flatten) ++ p.key ++ textB p.note ++ numB p.ops.length ++ p.ops.flatMap opB := rfl
  refine TCp.body k_ref15_Body hP rfl (by simp) rfl ?_
  rw [hq]
  obtain ⟨deps, key, note, ops, sign⟩ := p
  dsimp only at *
  simp [c_ref15_Body, r_ref15_Body, patchV]
  refine CallQ.of (f_ref05_Ids deps hd.len hd.ids) ?_
  simp [s1]
  refine CallQ.of (f_ref03_Bytes key h.key) ?_
  simp [s1, -List.length_flatten]
  refine ⟨by omega, CallQ.of (f_ref05_Text note (by omega)) ?_⟩
  simp [s1, -List.length_flatten]
  refine ⟨by omega, CallQ.of (f_ref05_Num ops.length (by omega)) ?_⟩
  simp [-List.length_flatten]
  refine ⟨by omega, ?_⟩
  generalize hS : numB deps.length ++ deps.flatten ++ key ++ textB note ++ numB ops.length = S
  have hSl : S.length = (numB deps.length).length + deps.flatten.length + key.length + (textB note).length + (numB ops.length).length := by
    rw [← hS]; simp only [List.length_append]
  refine AW_wloop (fun j : Nat => [(1, .ptr 0 []), (3, .str (S ++ (ops.take j).flatMap opB)), (4, .int .i64 j)]) (fun _ => [.cell (.agg [.sl 32 (deps.map idV) .view, idV key, .str note, .sl 39 (ops.map popV) .view, sigV sign])]) (fun j => j ≤ ops.length) (fun j => ops.length - j) 0 (Nat.zero_le _) (Weak.of_eq (by rw [← hS]; simp) rfl) ?_
  intro j hj
  rcases Nat.lt_or_ge j ops.length with h' | h'
  · have hk2 := i64_succ j (by omega)
    obtain ⟨x, hx, hta, hm⟩ := at_k h'
    have s2 := pop_shape (ho x hm).key
    have hle := flatMap_take_le opB ops (j + 1)
    rw [hta, List.flatMap_append, List.length_append] at hle
    have hx1 : ([x].flatMap opB).length = (opB x).length := by simp
    generalize hT : (ops.take j).flatMap opB = T at *
    simp [h', hx, s2, s1]
    refine CallB.p (f_ref13_Bytes x (ho x hm) (hr x hm) (by omega)) ?_
    simp [hk2]
    refine ⟨by omega, j + 1, h', by omega, ?_, by omega⟩
    rw [hta, List.flatMap_append, hT]
    simp
  · have : j = ops.length := by omega
    subst this
    simp [s1, ← hS]

theorem f_ref15_Bytes (p : Patch) (h : p.Ok) (hr : bytesErr p = 0) (hb : (bytesB p).length < 100000000) : TCp Pg n_ref15_Bytes [patchV p] (.str (bytesB p)) := by
  have s2 := id_shape h.key
  have hbl : (bytesB p).length = (bodyB p).length + (sigB p.sign).length := by simp [bytesB]
  have hpr : patchRight p = 0 := by
    unfold bytesErr at hr; split at hr
    · assumption
    · exact hr
  have hw : written p.sign = true := by
    unfold bytesErr at hr; rw [if_pos hpr] at hr; split at hr
    · assumption
    · cases hr
  have s1 := patch_shape h.key
  have hs : (patchV p).shape.size = 39 := by rw [s1]; rfl
  have hbody := f_ref15_Body p h (right_ops hpr) (by omega)
  refine TCp.body k_ref15_Bytes hP rfl (by simp) rfl ?_
  simp [c_ref15_Bytes, r_ref15_Bytes, hs]
  refine CallQ.of hbody ?_
  have hpv : patchV p = .agg [.sl 32 (p.deps.map idV) .view, idV p.key, .str p.note, .sl 39 (p.ops.map popV) .view, sigV p.sign] := rfl
  rw [hpv]
  simp [s2, sig_shape]
  refine CallQ.of (f_ref08_Bytes p.sign h.sign hw (by omega)) ?_
  simp [bytesB]
  omega

theorem f_ref15_Id (p : Patch) (h : p.Ok) (hr : bytesErr p = 0) (hb : (bytesB p).length < 100000000) : TCp Pg n_ref15_Id [patchV p] (idV (patchId p)) := by
  have s1 := patch_shape h.key
  have hs : (patchV p).shape.size = 39 := by rw [s1]; rfl
  have h32 : (patchId p).length = 32 := sha_length _
  refine TCp.body k_ref15_Id hP rfl (by simp) (by simp) ?_
  simp [c_ref15_Id, r_ref15_Id, hs]
  refine CallB.p (f_ref15_Bytes p h hr hb) ?_
  simp
  refine CallB.p (f_ref03_Of [105, 100] [bytesB p] (by simp) (by simp [tagText, sized, beLow_length]; omega)) ?_
  have : tagOf [105, 100] [bytesB p] = patchId p := rfl
  rw [this]
  simp [id_shape h32]
end Go.Abs
end
