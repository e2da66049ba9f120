/-
  Are two patches one: contracts. Patches of one's own: contracts. Two rows gone through together: contracts. The library's sort as the program bears it, by program. The comparison that the sort calls: its walk. Ids in order, each once: what the library's sort makes of them.
  Conditions: those that stand ahead of each theorem; no more.
-/
import Derived.Shelf.SlSortCmp.NoneTotal
import Derived.Ground.SlsfProg
import Derived.WalkKit
import Derived.Deep.QuietTactic
import Derived.BigQuiet
import Derived.Test.YtblnejkfaniljaaGreatDoorT16
import Derived.Test.YtblnejkfaniljaaGreatDoorT28
import Derived.Test.YtblnejkfaniljaaGreatDoorT29

section
namespace Go.Abs
open Go
set_option maxRecDepth 20000

theorem f_ref13_Same (a b : POp) (ha : a.Ok) (hb : b.Ok) : TCp Pg n_ref13_Same [popV a, popV b] (.bool (sameOp a b)) := by
  refine TCp.body k_ref13_Same hP rfl (by simp) rfl ?_
  have s1 := id_shape ha.key
  have s2 := id_shape hb.key
  have f1 := id_fits ha.key
  have f2 := id_fits hb.key
  simp [c_ref13_Same, r_ref13_Same, popV]
  refine CallG.of (r := .bool (decide (a.old = b.old))) (fun h => ⟨h, f_ref05_Same _ _ (by have := ha.old; omega)⟩) ?_
  simp
  refine CallG.of (r := .bool (decide (a.new = b.new))) (fun h => ⟨h, f_ref05_Same _ _ (by have := ha.new; omega)⟩) ?_
  simp [s1, s2, f1, f2, id_eq]
  rw [Bool.eq_iff_iff]
  simp [sameOp]
  simp only [and_assoc, and_comm, and_left_comm]

theorem f_ref13_All (a b : List POp) (hl : a.length < 1100000) (ha : ∀ x ∈ a, x.Ok) (hb : ∀ x ∈ b, x.Ok) : TCp Pg n_ref13_All [.sl 39 (a.map popV) .view, .sl 39 (b.map popV) .view] (.bool (eqBy sameOp a b)) := by
  refine TCp.body k_ref13_All hP rfl (by simp) rfl ?_
  by_cases hlen : a.length = b.length
  · have hli : (a.length : Int) = b.length := by omega
    simp [c_ref13_All, r_ref13_All, hlen]
    refine AW_wloop (fun j : Nat => [(0, .sl 39 (a.map popV) .view), (1, .sl 39 (b.map popV) .view), (5, .int .i64 j)]) (fun _ => []) (fun j => j ≤ a.length ∧ ∀ i, (h : i < a.length) → (h' : i < b.length) → i < j → sameOp a[i] b[i] = true) (fun j => a.length - j) 0 ⟨Nat.zero_le _, fun i _ _ h => by omega⟩ (Weak.of_eq (by simp) rfl) ?_
    rintro j ⟨hj, hno⟩
    rcases Nat.lt_or_ge j a.length with h' | h'
    · have hk1 := i64_succ j (by omega)
      have h'' : j < b.length := by omega
      have hxm : a[j] ∈ a := List.getElem_mem h'
      have hym : b[j] ∈ b := List.getElem_mem h''
      generalize hx : a[j] = x at hxm
      generalize hy : b[j] = y at hym
      have s1 := pop_shape (ha x hxm).key
      have s2 := pop_shape (hb y hym).key
      simp [h', h'', hx, hy, s1, s2]
      refine CallQ.of (f_ref13_Same x y (ha x hxm) (hb y hym)) ?_
      cases hp : sameOp x y with
      | true =>
        simp [hk1]
        refine ⟨j + 1, ⟨h', fun i hi hi' hlt => ?_⟩, by omega, by omega⟩
        rcases Nat.lt_or_ge i j with h1 | h1
        · exact hno i hi hi' h1
        · have : i = j := by omega
          subst this
          rw [hx, hy]; exact hp
      | false =>
        simp
        rw [eqBy_false h' h'' (by rw [hx, hy]; exact hp)]
    · have : j = a.length := by omega
      subst this
      simp [hlen]
      rw [eqBy_true hlen fun i h h2 => hno i h h2 h]
  · have hli : ¬ (a.length : Int) = b.length := by omega
    have hne : eqBy sameOp a b = false := by simp [eqBy, hlen]
    simp [c_ref13_All, r_ref13_All, hli, hne]

def sameSig (a b : Sig) : Bool := decide (a.leaf = b.leaf) && decide (a.shown = b.shown) && decide (a.hidden = b.hidden) && decide (a.way = b.way)
def samePatch (a b : Patch) : Bool := decide (a.deps = b.deps) && decide (a.key = b.key) && decide (a.note = b.note) && eqBy sameOp a.ops b.ops && sameSig a.sign b.sign

theorem f_ref08_Same (a b : Sig) (ha : a.Ok) (hb : b.Ok) : TCp Pg n_ref08_Same [sigV a, sigV b] (.bool (sameSig a b)) := by
  refine TCp.body k_ref08_Same hP rfl (by simp) rfl ?_
  have l1 := ha.shown.len
  have l2 := ha.hidden.len
  have l3 := ha.way.len
  simp [c_ref08_Same, r_ref08_Same, sigV]
  refine CallG.of (r := .bool (decide (a.shown = b.shown))) (fun h => ⟨h, f_ref04_Same _ _ (by omega) ha.shown.ids hb.shown.ids⟩) ?_
  simp
  refine CallG.of (r := .bool (decide (a.hidden = b.hidden))) (fun h => ⟨h, f_ref04_Same _ _ (by omega) ha.hidden.ids hb.hidden.ids⟩) ?_
  simp
  refine CallG.of (r := .bool (decide (a.way = b.way))) (fun h => ⟨h, f_ref04_Same _ _ (by omega) ha.way.ids hb.way.ids⟩) ?_
  simp [sameSig]

set_option maxHeartbeats 1000000 in
theorem f_ref15_Same (a b : Patch) (ha : a.Ok) (hb : b.Ok) : TCp Pg n_ref15_Same [patchV a, patchV b] (.bool (samePatch a b)) := by
  refine TCp.body k_ref15_Same hP rfl (by simp) rfl ?_
  have s1 := id_shape ha.key
  have s2 := id_shape hb.key
  have f1 := id_fits ha.key
  have f2 := id_fits hb.key
  have l1 := ha.deps.len
  have l2 := ha.olen
  simp [c_ref15_Same, r_ref15_Same, patchV]
  refine CallB.p (f_ref04_Same _ _ (by omega) ha.deps.ids hb.deps.ids) ?_
  simp [s1, s2, f1, f2, id_eq]
  refine CallG.of (r := .bool (eqBy sameOp a.ops b.ops)) (fun h => ⟨h, f_ref13_All _ _ l2 ha.ops hb.ops⟩) ?_
  simp [s1, s2, sig_shape]
  refine CallG.of (r := .bool (sameSig a.sign b.sign)) (fun h => ⟨h, f_ref08_Same _ _ ha.sign hb.sign⟩) ?_
  simp [samePatch]

set_option maxHeartbeats 1000000 in
theorem f_patch_Same (a b : Patch) (ha : a.Ok) (hb : b.Ok) : TCp Pg n_patch_Same [patchV a, patchV b] (.bool (samePatch a b)) := by
  refine TCp.body k_patch_Same hP rfl (by simp) rfl ?_
  have s1 := id_shape ha.key
  have s2 := id_shape hb.key
  have f1 := id_fits ha.key
  have f2 := id_fits hb.key
  have l1 := ha.deps.len
  have l2 := ha.olen
  simp [c_patch_Same, r_patch_Same, patchV, sigV]
  have l3 := ha.sign.shown.len
  have l4 := ha.sign.hidden.len
  have l5 := ha.sign.way.len
  refine CallB.p (f_id_Same _ _ (by omega) ha.deps.ids hb.deps.ids) ?_
  simp [s1, s2, f1, f2, id_eq]
  refine CallG.of (r := .bool (eqBy sameOp a.ops b.ops)) (fun h => ⟨h, f_slices_EqualFunc_Op _ _ (by omega) sameOp (fun x hx => (ha.ops x hx).key) (fun x hx => (hb.ops x hx).key) (fun x hx y hy => f_op_Same x y (ha.ops x hx) (hb.ops y hy))⟩) ?_
  simp [s1, s2]
  refine CallG.of (r := .bool (decide (a.sign.shown = b.sign.shown))) (fun h => ⟨h, f_id_Same _ _ (by omega) ha.sign.shown.ids hb.sign.shown.ids⟩) ?_
  simp [s1, s2]
  refine CallG.of (r := .bool (decide (a.sign.hidden = b.sign.hidden))) (fun h => ⟨h, f_id_Same _ _ (by omega) ha.sign.hidden.ids hb.sign.hidden.ids⟩) ?_
  simp [s1, s2]
  refine CallG.of (r := .bool (decide (a.sign.way = b.sign.way))) (fun h => ⟨h, f_id_Same _ _ (by omega) ha.sign.way.ids hb.sign.way.ids⟩) ?_
  simp [samePatch, sameSig, Bool.and_assoc]
end Go.Abs
end

section
namespace Go.Abs
open Go
set_option maxRecDepth 20000

theorem Weak.take {n0 : Nat} {tm : TM} {H : HP} (m : Nat) (hn : n0 ≤ m) (ht : underTM m tm = true) (hu : Abs.underH m (H.take m) = true) : Weak n0 tm H tm (H.take m) := by
  rintro σ a rfl I hf
  exact ⟨{ σ with H := σ.H.take m }, rfl, rfl, take_inv I hu, fun i => RepV.under (Same.take σ m) _ _ (underTM_lk ht i) (hf i), (take_tr σ m).mono hn⟩

@[simp] theorem ops_take_underL (m j : Nat) (l : List POp) : V.underL m (List.take j (l.map popV)) = true := by rw [← List.map_take]; exact ops_underL m _

theorem f_op_Clone (o : POp) (h : o.Ok) : TCp Pg n_op_Clone [popV o] (popV o) := by
  refine TCp.bodyV k_op_Clone hP rfl (by simp) (by simp) ?_
  have s1 := id_shape h.key
  have l1 := h.old
  have l2 := h.new
  simp [c_op_Clone, r_op_Clone, popV]
  refine CallQ.of (f_slices_Clone_string o.old (by omega)) ?_
  simp
  refine CallQ.of (f_slices_Clone_string o.new (by omega)) ?_
  simp [s1]

set_option maxHeartbeats 2000000 in
theorem f_patch_Clone (p : Patch) (h : p.Ok) : TCp Pg n_patch_Clone [patchV p] (patchV p) := by
  refine TCp.bodyV k_patch_Clone hP rfl (by simp) (by simp) ?_
  have s1 := id_shape h.key
  have l1 := h.deps.len
  have l2 := h.olen
  have l3 := h.sign.shown.len
  have l4 := h.sign.hidden.len
  have l5 := h.sign.way.len
  have ho := h.ops
  obtain ⟨deps, key, note, ops, sign⟩ := p
  dsimp only at *
  simp [c_patch_Clone, r_patch_Clone, patchV, sigV]
  refine CallB.p (f_slices_Clone_Id deps (by omega)) ?_
  simp [s1]
  refine AW_wloopW (fun j : Nat => [(1, .ptr 0 []), (2, .ptr 1 []), (3, .sl 39 ((ops.take j).map popV) (.row 2)), (11, .sl 39 (ops.map popV) .view), (12, .int .i64 ops.length), (13, .int .i64 j)])
    (fun j => [.cell (.agg [.sl 32 (deps.map idV) .view, idV key, .str note, .sl 39 (ops.map popV) .view, .agg [.int .i64 sign.leaf, .sl 32 (sign.shown.map idV) .view, .sl 32 (sign.hidden.map idV) .view, .sl 32 (sign.way.map idV) .view]]),
      .cell (.agg [.sl 32 [] .full, .agg (List.replicate 32 (.int .u8 0)), .str [], .sl 39 [] .full, .agg [.int .i64 0, .sl 32 [] .full, .sl 32 [] .full, .sl 32 [] .full]]), .row j 39]) (fun j => j ≤ ops.length) (fun j => ops.length - j) 0 (Nat.zero_le _)
    (Weak.open 3 39 rfl) ?_
  intro j hj
  rcases Nat.lt_or_ge j ops.length with h' | h'
  · have hk2 := i64_succ j (by omega)
    obtain ⟨x, hx, hta, hm⟩ := at_k h'
    have s2 := pop_shape (ho x hm).key
    simp [h', hx, s2]
    refine CallB.p (f_op_Clone x (ho x hm)) ?_
    simp [s2, hk2]
    have hmin : min j ops.length = j := by omega
    have he : List.take j (ops.map popV) ++ [popV x] = (ops.take (j + 1)).map popV := by rw [← List.map_take, hta]; simp
    rw [he]
    refine ⟨by omega, by omega, j + 1, h', by omega, Weak.trans (Weak.take 3 (by omega) (by simp [V.under]) (by simp [underH, V.under, V.underL])) (Weak.of_eq ?_ ?_)⟩
    · simp
    · simp [hmin]
  · have : j = ops.length := by omega
    subst this
    simp [s1]
    refine CallQ.of (f_slices_Clone_Id sign.shown (by omega)) ?_
    simp [s1]
    refine CallQ.of (f_slices_Clone_Id sign.hidden (by omega)) ?_
    simp [s1]
    refine CallQ.of (f_slices_Clone_Id sign.way (by omega)) ?_
    simp [s1]
end Go.Abs
end

section
namespace Go.Abs
open Go
set_option maxRecDepth 20000

/-- Temporaries and blocks of which no more is wanted are let go. -/
theorem Weak.tidy {n0 : Nat} {tm tm' : TM} {H H' : HP} (l : List Nat) (m : Nat) (hn : n0 ≤ m) (ht : underTM m tm' = true) (hu : Abs.underH m H' = true) (e1 : keepLive tm l = tm') (e2 : H.take m = H') : Weak n0 tm H tm' H' := by
  subst e1; subst e2
  exact (Weak.keep l).trans (Weak.take m hn ht hu)

theorem cmpB_swap : ∀ a b : Bs, cmpB b a = - cmpB a b
  | [], [] => rfl
  | [], b :: r => rfl
  | a :: l, [] => rfl
  | a :: l, b :: r => by
    have ih := cmpB_swap l r
    unfold cmpB at *
    rw [Lib.compareBytes, Lib.compareBytes]
    by_cases h1 : a < b
    · have h2 : ¬ b < a := by rw [UInt8.lt_iff_toNat_lt] at *; omega
      rw [if_neg h2, if_pos h1, if_pos h1]
      rfl
    · by_cases h2 : b < a
      · rw [if_pos h2, if_neg h1, if_pos h2]
      · rw [if_neg h2, if_neg h1, if_neg h1, if_neg h2]
        exact ih
theorem ltB_asymm {a b : Bs} (h : ltB a b = true) : ltB b a = false := by
  unfold ltB at *
  rw [cmpB_swap a b]
  simp only [decide_eq_true_eq, decide_eq_false_iff_not] at *
  omega

/-- Two rows gone through together: of each step what counts. -/
def mergeB (p : Bool → Bool → Bool) : List Bs → List Bs → List Bs
  | [], [] => []
  | x :: a, [] => (if p true false = true then [x] else []) ++ mergeB p a []
  | [], y :: b => (if p false true = true then [y] else []) ++ mergeB p [] b
  | x :: a, y :: b =>
    if ltB x y = true then (if p true false = true then [x] else []) ++ mergeB p a (y :: b)
    else if ltB y x = true then (if p false true = true then [y] else []) ++ mergeB p (x :: a) b
    else (if p true true = true then [x] else []) ++ mergeB p a b
termination_by a b => a.length + b.length

@[simp] theorem ids_snoc_underL (m : Nat) (l : List Bs) (x : Bs) : V.underL m (l.map idV ++ [idV x]) = true := by
  have : l.map idV ++ [idV x] = (l ++ [x]).map idV := by simp
  rw [this]; exact ids_underL m _
@[simp] theorem ids_take_all (l : List Bs) : List.take l.length (l.map idV) = l.map idV := List.take_of_length_le (by simp)

theorem f_id_merge {F : Nat} (p : Bool → Bool → Bool) (hF : ∀ x y, TCp Pg F [.bool x, .bool y] (.bool (p x y))) (a b : List Bs) (hl : a.length + b.length < 1100000) (ha : ∀ x ∈ a, x.length = 32) (hb : ∀ x ∈ b, x.length = 32) :
    TCp Pg n_id_merge [.sl 32 (a.map idV) .view, .sl 32 (b.map idV) .view, .fn F [] []] (.sl 32 ((mergeB p a b).map idV) .view) := by
  refine TCp.bodyV k_id_merge hP rfl (by simp) (by simp) ?_
  simp [c_id_merge, r_id_merge]
  refine AW_wloopW (fun q : List Bs × List Bs × List Bs => [(0, .sl 32 (q.1.map idV) .view), (1, .sl 32 (q.2.1.map idV) .view), (2, .fn F [] []), (7, .sl 32 (q.2.2.map idV) (.row 0))]) (fun q => [.row q.2.2.length 32])
    (fun q => q.2.2 ++ mergeB p q.1 q.2.1 = mergeB p a b ∧ (∀ x ∈ q.1, x.length = 32) ∧ (∀ x ∈ q.2.1, x.length = 32) ∧ q.2.2.length + q.1.length + q.2.1.length < 1100000) (fun q => q.1.length + q.2.1.length) (a, b, [])
    ⟨rfl, ha, hb, by simpa using hl⟩ (Weak.open 7 32 rfl) ?_
  rintro ⟨a', b', out⟩ ⟨he, ha', hb', hlen⟩
  simp only at he ha' hb' hlen
  cases a' with
  | nil =>
    cases b' with
    | nil =>
      simp
      rw [← he]; simp [mergeB]
    | cons y b' =>
      have s2 := id_shape (hb' y (by simp))
      have hs2 : (idV y).shape.size = 32 := by rw [s2]; rfl
      have hm : mergeB p [] (y :: b') = (if p false true = true then [y] else []) ++ mergeB p [] b' := by rw [mergeB]
      have hb2 : ∀ x ∈ b', x.length = 32 := fun x hx => hb' x (by simp [hx])
      simp only [List.length_cons, List.length_nil] at hlen
      simp [s2]
      refine CallG.of (r := .bool true) (fun q => by cases q) ?_
      simp [s2]
      refine CallG.of (r := .bool true) (fun q => by cases q) ?_
      simp [s2]
      refine ⟨by omega, CallB.p (hF false true) ?_⟩
      cases e : p false true with
      | true =>
        rw [e, if_pos rfl] at hm
        simp [s2]
        refine ⟨by omega, [], b', out ++ [y], ⟨by rw [← he, hm]; simp, by simp, hb2, by simp; omega⟩, by simp, Weak.tidy [0, 1, 2, 7] 1 (by omega) (by simp) (by simp) (by simp) (by simp)⟩
      | false =>
        rw [e, if_neg (by simp), List.nil_append] at hm
        simp
        refine ⟨[], b', out, ⟨by rw [← he, hm], by simp, hb2, by simp; omega⟩, by simp, Weak.tidy [0, 1, 2, 7] 1 (by omega) (by simp) (by simp) (by simp) (by simp)⟩
  | cons x a' =>
    have s1 := id_shape (ha' x (by simp))
    have hs1 : (idV x).shape.size = 32 := by rw [s1]; rfl
    have ha2 : ∀ z ∈ a', z.length = 32 := fun z hz => ha' z (by simp [hz])
    cases b' with
    | nil =>
      have hm : mergeB p (x :: a') [] = (if p true false = true then [x] else []) ++ mergeB p a' [] := by rw [mergeB]
      simp only [List.length_cons, List.length_nil] at hlen
      simp [s1]
      refine CallG.of (r := .bool true) (fun q => by cases q) ?_
      simp [s1]
      refine CallG.of (r := .bool true) (fun q => by cases q) ?_
      simp [s1]
      refine ⟨by omega, CallB.p (hF true false) ?_⟩
      cases e : p true false with
      | true =>
        rw [e, if_pos rfl] at hm
        simp [s1]
        refine ⟨by omega, a', [], out ++ [x], ⟨by rw [← he, hm]; simp, ha2, by simp, by simp; omega⟩, by simp, Weak.tidy [0, 1, 2, 7] 1 (by omega) (by simp) (by simp) (by simp) (by simp)⟩
      | false =>
        rw [e, if_neg (by simp), List.nil_append] at hm
        simp
        refine ⟨a', [], out, ⟨by rw [← he, hm], ha2, by simp, by simp; omega⟩, by simp, Weak.tidy [0, 1, 2, 7] 1 (by omega) (by simp) (by simp) (by simp) (by simp)⟩
    | cons y b' =>
      have s2 := id_shape (hb' y (by simp))
      have hs2 : (idV y).shape.size = 32 := by rw [s2]; rfl
      have hb2 : ∀ z ∈ b', z.length = 32 := fun z hz => hb' z (by simp [hz])
      have hl1 : ¬ ((b'.length : Int) + 1 = 0) := by omega
      have hl2 : ¬ ((a'.length : Int) + 1 = 0) := by omega
      simp only [List.length_cons] at hlen
      have hm : mergeB p (x :: a') (y :: b') = if ltB x y = true then (if p true false = true then [x] else []) ++ mergeB p a' (y :: b') else if ltB y x = true then (if p false true = true then [y] else []) ++ mergeB p (x :: a') b' else (if p true true = true then [x] else []) ++ mergeB p a' b' := by rw [mergeB]
      simp [s1, s2, hl1]
      refine CallG.of (r := .bool (ltB y x)) (fun q => ⟨rfl, f_id_Less y x (hb' y (by simp)) (ha' x (by simp))⟩) ?_
      simp [s1, s2, hl2]
      refine CallG.of (r := .bool (ltB x y)) (fun q => ⟨rfl, f_id_Less x y (ha' x (by simp)) (hb' y (by simp))⟩) ?_
      cases e1 : ltB x y with
      | true =>
        have e2 := ltB_asymm e1
        rw [if_pos e1] at hm
        simp [s1, s2, e2]
        refine ⟨by omega, CallB.p (hF true false) ?_⟩
        cases e : p true false with
        | true =>
          rw [e, if_pos rfl] at hm
          simp [s1]
          refine ⟨by omega, a', y :: b', out ++ [x], ⟨by rw [← he, hm]; simp, ha2, hb', by simp; omega⟩, by simp, Weak.tidy [0, 1, 2, 7] 1 (by omega) (by simp) (by simp) (by simp) (by simp)⟩
        | false =>
          rw [e, if_neg (by simp), List.nil_append] at hm
          simp
          refine ⟨a', y :: b', out, ⟨by rw [← he, hm], ha2, hb', by simp; omega⟩, by simp, Weak.tidy [0, 1, 2, 7] 1 (by omega) (by simp) (by simp) (by simp) (by simp)⟩
      | false =>
        rw [if_neg (by rw [e1]; simp)] at hm
        cases e2 : ltB y x with
        | true =>
          rw [if_pos e2] at hm
          simp [s1, s2]
          refine ⟨by omega, CallB.p (hF false true) ?_⟩
          cases e : p false true with
          | true =>
            rw [e, if_pos rfl] at hm
            simp [s2]
            refine ⟨by omega, x :: a', b', out ++ [y], ⟨by rw [← he, hm]; simp, ha', hb2, by simp; omega⟩, by simp, Weak.tidy [0, 1, 2, 7] 1 (by omega) (by simp) (by simp) (by simp) (by simp)⟩
          | false =>
            rw [e, if_neg (by simp), List.nil_append] at hm
            simp
            refine ⟨x :: a', b', out, ⟨by rw [← he, hm], ha', hb2, by simp; omega⟩, by simp, Weak.tidy [0, 1, 2, 7] 1 (by omega) (by simp) (by simp) (by simp) (by simp)⟩
        | false =>
          rw [if_neg (by rw [e2]; simp)] at hm
          simp [s1, s2]
          refine ⟨by omega, by omega, CallB.p (hF true true) ?_⟩
          cases e : p true true with
          | true =>
            rw [e, if_pos rfl] at hm
            simp [s1]
            refine ⟨by omega, a', b', out ++ [x], ⟨by rw [← he, hm]; simp, ha2, hb2, by simp; omega⟩, by show a'.length + b'.length < (x :: a').length + (y :: b').length; simp only [List.length_cons]; omega, Weak.tidy [0, 1, 2, 7] 1 (by omega) (by simp) (by simp) (by simp) (by simp)⟩
          | false =>
            rw [e, if_neg (by simp), List.nil_append] at hm
            simp
            refine ⟨a', b', out, ⟨by rw [← he, hm], ha2, hb2, by show out.length + a'.length + b'.length < 1100000; omega⟩, by show a'.length + b'.length < (x :: a').length + (y :: b').length; simp only [List.length_cons]; omega, Weak.tidy [0, 1, 2, 7] 1 (by omega) (by simp) (by simp) (by simp) (by simp)⟩

theorem f_id_Both (a b : List Bs) (hl : a.length + b.length < 1100000) (ha : ∀ x ∈ a, x.length = 32) (hb : ∀ x ∈ b, x.length = 32) :
    TCp Pg n_id_Both [.sl 32 (a.map idV) .view, .sl 32 (b.map idV) .view] (.sl 32 ((mergeB (fun x y => x && y) a b).map idV) .view) := by
  refine TCp.bodyV k_id_Both hP rfl (by simp) (by simp) ?_
  simp [c_id_Both, r_id_Both]
  refine CallB.p (f_id_merge (fun x y => x && y) f_id_Both_1 a b hl ha hb) ?_
  simp
theorem f_id_Minus (a b : List Bs) (hl : a.length + b.length < 1100000) (ha : ∀ x ∈ a, x.length = 32) (hb : ∀ x ∈ b, x.length = 32) :
    TCp Pg n_id_Minus [.sl 32 (a.map idV) .view, .sl 32 (b.map idV) .view] (.sl 32 ((mergeB (fun x y => x && !y) a b).map idV) .view) := by
  refine TCp.bodyV k_id_Minus hP rfl (by simp) (by simp) ?_
  simp [c_id_Minus, r_id_Minus]
  refine CallB.p (f_id_merge (fun x y => x && !y) f_id_Minus_1 a b hl ha hb) ?_
  simp
end Go.Abs
end

section
namespace Go.Proofs
open Go.Shelf
def Tryz.sortIds_ren : Go.Shelf.Ren := ⟨fun | 6 => 37 | 15 => 61 | 14 => 60 | 28 => 91 | 29 => 92 | 20 => 83 | 21 => 84 | 22 => 85 | 23 => 86 | 24 => 87 | 25 => 88 | 26 => 89 | 27 => 90 | 46 => 114 | 47 => 115 | 48 => 116 | 49 => 117 | 50 => 118 | 57 => 138 | n => n, fun | 22 => 32 | 24 => 34 | 25 => 86 | 3 => 3 | 39 => 106 | 0 => 0 | 53 => 139 | 55 => 141 | 4 => 4 | 46 => 132 | 45 => 131 | 50 => 136 | 5 => 5 | 9 => 9 | 66 => 159 | 70 => 163 | 76 => 183 | 77 => 184 | n => n, fun | n => n⟩
theorem Tryz.sortIds : Go.Proofs.SlLaysF0.n6 Tryz.prog Tryz.sortIds_ren := {
  mixed := by kernel_rfl
  f6 := ⟨Tryz.f37.name, by decide, Tryz.func37.trans (congrArg some (by kernel_rfl))⟩
  f14 := ⟨Tryz.f60.name, by decide, Tryz.func60.trans (congrArg some (by kernel_rfl))⟩
  f15 := Tryz.func61.trans (congrArg some (by kernel_rfl))
  f20 := ⟨Tryz.f83.name, by decide, Tryz.func83.trans (congrArg some (by kernel_rfl))⟩
  f21 := ⟨Tryz.f84.name, by decide, Tryz.func84.trans (congrArg some (by kernel_rfl))⟩
  f22 := ⟨Tryz.f85.name, by decide, Tryz.func85.trans (congrArg some (by kernel_rfl))⟩
  f23 := ⟨Tryz.f86.name, by decide, Tryz.func86.trans (congrArg some (by kernel_rfl))⟩
  f24 := ⟨Tryz.f87.name, by decide, Tryz.func87.trans (congrArg some (by kernel_rfl))⟩
  f25 := ⟨Tryz.f88.name, by decide, Tryz.func88.trans (congrArg some (by kernel_rfl))⟩
  f26 := ⟨Tryz.f89.name, by decide, Tryz.func89.trans (congrArg some (by kernel_rfl))⟩
  f27 := ⟨Tryz.f90.name, by decide, Tryz.func90.trans (congrArg some (by kernel_rfl))⟩
  f28 := Tryz.func91.trans (congrArg some (by kernel_rfl))
  f29 := Tryz.func92.trans (congrArg some (by kernel_rfl))
  f46 := ⟨Tryz.f114.name, by decide, Tryz.func114.trans (congrArg some (by kernel_rfl))⟩
  f47 := Tryz.func115.trans (congrArg some (by kernel_rfl))
  f48 := Tryz.func116.trans (congrArg some (by kernel_rfl))
  f49 := ⟨Tryz.f117.name, by decide, Tryz.func117.trans (congrArg some (by kernel_rfl))⟩
  f50 := ⟨Tryz.f118.name, by decide, Tryz.func118.trans (congrArg some (by kernel_rfl))⟩
  f57 := ⟨Tryz.f138.name, by decide, Tryz.func138.trans (congrArg some (by kernel_rfl))⟩
  t0 := Tryz.underlying0
  a0 := Tryz.isAgg0
  z0 := Tryz.sizeOf0
  v0 := Tryz.zeroValue0
  t3 := Tryz.underlying3
  a3 := Tryz.isAgg3
  z3 := Tryz.sizeOf3
  v3 := Tryz.zeroValue3
  t4 := Tryz.underlying4
  a4 := Tryz.isAgg4
  z4 := Tryz.sizeOf4
  v4 := Tryz.zeroValue4
  t5 := Tryz.underlying5
  a5 := Tryz.isAgg5
  z5 := Tryz.sizeOf5
  v5 := Tryz.zeroValue5
  t9 := Tryz.underlying9
  a9 := Tryz.isAgg9
  z9 := Tryz.sizeOf9
  v9 := Tryz.zeroValue9
  t22 := Tryz.underlying32
  a22 := Tryz.isAgg32
  z22 := Tryz.sizeOf32
  v22 := Tryz.zeroValue32
  t25 := Tryz.underlying86
  a25 := Tryz.isAgg86
  z25 := Tryz.sizeOf86
  v25 := Tryz.zeroValue86
  t39 := Tryz.underlying106
  a39 := Tryz.isAgg106
  z39 := Tryz.sizeOf106
  v39 := Tryz.zeroValue106
  t45 := Tryz.underlying131
  a45 := Tryz.isAgg131
  z45 := Tryz.sizeOf131
  v45 := Tryz.zeroValue131
  t46 := Tryz.underlying132
  a46 := Tryz.isAgg132
  z46 := Tryz.sizeOf132
  v46 := Tryz.zeroValue132
  t50 := Tryz.underlying136
  a50 := Tryz.isAgg136
  z50 := Tryz.sizeOf136
  v50 := Tryz.zeroValue136
  t53 := Tryz.underlying139
  a53 := Tryz.isAgg139
  z53 := Tryz.sizeOf139
  v53 := Tryz.zeroValue139
  t55 := Tryz.underlying141
  a55 := Tryz.isAgg141
  z55 := Tryz.sizeOf141
  v55 := Tryz.zeroValue141
  t66 := Tryz.underlying159
  a66 := Tryz.isAgg159
  z66 := Tryz.sizeOf159
  v66 := Tryz.zeroValue159
  t70 := Tryz.underlying163
  a70 := Tryz.isAgg163
  z70 := Tryz.sizeOf163
  v70 := Tryz.zeroValue163
  t76 := Tryz.underlying183
  a76 := Tryz.isAgg183
  z76 := Tryz.sizeOf183
  v76 := Tryz.zeroValue183
  t77 := Tryz.underlying184
  a77 := Tryz.isAgg184
  z77 := Tryz.sizeOf184
  v77 := Tryz.zeroValue184 }
end Go.Proofs
end

section
namespace Go.Abs
open Go Go.Sort Go.Lib

def encB (a : Bs) : List Value := a.map fun b => .int .u8 b.toNat

theorem ext_Compare (a b : Bs) (p q : Nat) (W : World) (hp : ∀ j x, (a.map fun b => (b.toNat : Int))[j]? = some x → W.cell? ⟨p, j, none⟩ = some (.int .u8 x)) (hq : ∀ j x, (b.map fun b => (b.toNat : Int))[j]? = some x → W.cell? ⟨q, j, none⟩ = some (.int .u8 x)) :
    (callFunc n_bytealg_Compare #[.slice (some ⟨p, 0, none⟩) a.length a.length, .slice (some ⟨q, 0, none⟩) b.length b.length]).run Pg W = .ok (.value (.int .i64 (cmpB a b))) W := by
  have hb : ∀ (a : Bs) (p : Nat), (∀ j x, (a.map fun b => (b.toNat : Int))[j]? = some x → W.cell? ⟨p, j, none⟩ = some (.int .u8 x)) → (Extern.Bytes.bytesOf (.slice (some ⟨p, 0, none⟩) a.length a.length)).run Pg W = .ok ⟨a.toArray⟩ W := by
    intro a p hp
    have := Lib.run_loadBytesX (P := Pg) W (a.map fun b => (b.toNat : Int)) ⟨p, 0, none⟩ .empty (fun j x hj => by
      have := hp j x hj
      have e : (⟨p, 0, none⟩ : Addr).add j = ⟨p, j, none⟩ := by unfold Addr.add; by_cases h0 : j = 0 <;> simp [h0]
      rw [e]; exact this)
    show (Extern.Bytes.loadBytes ⟨p, 0, none⟩ a.length .empty).run Pg W = _
    rw [List.length_map] at this
    rw [this]
    have : Lib.bytesOf (a.map fun b => (b.toNat : Int)) = a := by
      unfold Lib.bytesOf
      rw [List.map_map]
      conv => rhs; rw [← List.map_id a]
      exact List.map_congr_left fun b _ => by simp
    rw [this]
    congr 2
    exact Array.empty_append
  rw [run_callFunc_extern (fn := fn_Compare) (Option.some_get some_Compare).symm (by kernel_rfl) (by kernel_rfl) (by kernel_rfl) (e := Extern.BytealgCompare.compare) (by kernel_rfl)]
  have : (Extern.BytealgCompare.compare #[.slice (some ⟨p, 0, none⟩) a.length a.length, .slice (some ⟨q, 0, none⟩) b.length b.length]).run Pg W = .ok (.int .i64 (cmpB a b)) W := by
    change Sem.run Pg (do pure (goInt (Extern.BytealgCompare.cmp (← Extern.Bytes.bytesOf (.slice (some ⟨p, 0, none⟩) a.length a.length)) (← Extern.Bytes.bytesOf (.slice (some ⟨q, 0, none⟩) b.length b.length))))) W = _
    simp only [Sem.run_bind, Sem.run_pure, hb a p hp, hb b q hq, Result.andThen]
    rw [Lib.cmp_eq]
    rfl
  rw [this]
  rfl

theorem bytes_walk (a b : Bs) (p q : Nat) (W : World) (ha : a.length = 32) (hb : b.length = 32) (hp : ∀ j x, (a.map fun b => (b.toNat : Int))[j]? = some x → W.cell? ⟨p, j, none⟩ = some (.int .u8 x)) (hq : ∀ j x, (b.map fun b => (b.toNat : Int))[j]? = some x → W.cell? ⟨q, j, none⟩ = some (.int .u8 x)) :
    Calls Pg n_bytes_Compare #[.slice (some ⟨p, 0, none⟩) 32 32, .slice (some ⟨q, 0, none⟩) 32 32] W fun e w' => e = .returned (.int .i64 (cmpB a b)) ∧ w' = W := by
  have hc := ext_Compare a b p q W hp hq
  rw [ha, hb] at hc
  clear hp hq
  generalize cmpB a b = c at *
  go_enter Go.Proofs.Tryz.func62, Go.Proofs.Tryz.ntmps62
  go_wp2
  go_ret
  exact ⟨rfl, rfl⟩

theorem two_alloc (W : World) (o1 o2 : Obj) (n : Nat) : (((W.alloc o1).alloc o2).drewN n).heap[W.heap.size]? = some o1 ∧ (((W.alloc o1).alloc o2).drewN n).heap[W.heap.size + 1]? = some o2 := by
  have h : (((W.alloc o1).alloc o2).drewN n).heap = (W.heap.push o1).push o2 := rfl
  rw [h]
  refine ⟨by simp [Array.getElem?_push], ?_⟩
  rw [Array.getElem?_push, if_pos (by simp)]

set_option maxRecDepth 20000 in
set_option maxHeartbeats 1000000 in
theorem cmp_walk (a b : Bs) (ha : a.length = 32) (hb : b.length = 32) (W : World) :
    Calls Pg n_id_compare #[.agg (encB a).toArray, .agg (encB b).toArray] W fun e w' => e = .returned (.int .i64 (cmpB a b)) ∧ ∃ q os', w' = grow (W.drewN q) os' := by
  have ea : (encB a).toArray.size = 32 := by simp [encB, ha]
  have eb : (encB b).toArray.size = 32 := by simp [encB, hb]
  have hbw := fun W' => bytes_walk a b W.heap.size (W.heap.size + 1) W' ha hb
  have hcell : ∀ (p : Nat) (l : Bs) (W' : World), W'.heap[p]? = some (.cells (encB l).toArray 34 (0, 0)) → ∀ j x, (l.map fun b => (b.toNat : Int))[j]? = some x → W'.cell? ⟨p, j, none⟩ = some (.int .u8 x) := by
    intro p l W' h j x hx
    unfold World.cell?
    simp only [h, Option.isSome_none, Bool.false_eq_true, if_false]
    rw [List.getElem?_map] at hx
    simp only [encB, List.getElem?_toArray, List.getElem?_map]
    cases hl : l[j]? with
    | none => rw [hl] at hx; cases hx
    | some y => rw [hl] at hx; simp at hx; simp [hx]
  have hca := fun n => hcell W.heap.size a (((W.alloc (Obj.cells (encB a).toArray 34)).alloc (Obj.cells (encB b).toArray 34)).drewN n) (two_alloc _ _ _ _).1
  have hcb := fun n => hcell (W.heap.size + 1) b (((W.alloc (Obj.cells (encB a).toArray 34)).alloc (Obj.cells (encB b).toArray 34)).drewN n) (two_alloc _ _ _ _).2
  clear hcell
  generalize (encB a).toArray = A at *
  generalize (encB b).toArray = B at *
  generalize cmpB a b = c at *
  go_enter Go.Proofs.Tryz.func38, Go.Proofs.Tryz.ntmps38
  go_wp2
  go_quiet (first | (go_at_call 62; refine (hbw _ (hca _) (hcb _)).mono ?_; exact fun e w' h => ⟨h.1, _, h.2⟩))
  go_wp2
  go_ret
  exact ⟨rfl, _, _, by rw [alloc_eq_grow, alloc_eq_grow, grow_grow]; rfl⟩
end Go.Abs
end

section
namespace Go.Abs
open Go Go.Sort Go.Lib

theorem cmpB_eq : ∀ {a b : Bs}, cmpB a b = 0 → a = b
  | [], [], _ => rfl
  | [], b :: r, h => by unfold cmpB at h; simp [Lib.compareBytes] at h
  | a :: l, [], h => by unfold cmpB at h; simp [Lib.compareBytes] at h
  | a :: l, b :: r, h => by
    unfold cmpB at h
    rw [Lib.compareBytes] at h
    by_cases h1 : a < b
    · rw [if_pos h1] at h; simp at h
    · by_cases h2 : b < a
      · rw [if_neg h1, if_pos h2] at h; simp at h
      · rw [if_neg h1, if_neg h2] at h
        have e : a = b := UInt8.toNat.inj (by rw [UInt8.lt_iff_toNat_lt] at h1 h2; omega)
        rw [e, cmpB_eq h]
theorem ltB_irrefl (a : Bs) : ltB a a = false := by unfold ltB; rw [cmpB_self]; rfl
theorem ltB_trans : ∀ {a b c : Bs}, ltB a b = true → ltB b c = true → ltB a c = true
  | [], [], _, h, _ => by simp [ltB, cmpB, Lib.compareBytes] at h
  | a :: _, [], _, h, _ => by simp [ltB, cmpB, Lib.compareBytes] at h
  | _, b :: _, [], _, h => by simp [ltB, cmpB, Lib.compareBytes] at h
  | [], b :: _, c :: _, _, _ => by simp [ltB, cmpB, Lib.compareBytes]
  | a :: l, b :: r, c :: s, h, k => by
    have ih := @ltB_trans l r s
    unfold ltB cmpB at *
    rw [Lib.compareBytes] at h k ⊢
    simp only [decide_eq_true_eq] at *
    by_cases h1 : a < b
    · by_cases k1 : b < c
      · have : a < c := by rw [UInt8.lt_iff_toNat_lt] at *; omega
        rw [if_pos this]; omega
      · by_cases k2 : c < b
        · rw [if_neg k1, if_pos k2] at k; omega
        · have : a < c := by rw [UInt8.lt_iff_toNat_lt] at *; omega
          rw [if_pos this]; omega
    · by_cases h2 : b < a
      · rw [if_neg h1, if_pos h2] at h; omega
      · rw [if_neg h1, if_neg h2] at h
        have e : a = b := UInt8.toNat.inj (by rw [UInt8.lt_iff_toNat_lt] at h1 h2; omega)
        subst e
        by_cases k1 : a < c
        · rw [if_pos k1]; omega
        · by_cases k2 : c < a
          · rw [if_neg k1, if_pos k2] at k; omega
          · rw [if_neg k1, if_neg k2] at k ⊢
            exact ih h k
theorem ltB_total {a b : Bs} (h : ltB a b = false) (k : ltB b a = false) : a = b := by
  unfold ltB at *
  rw [cmpB_swap a b] at k
  simp only [decide_eq_false_iff_not] at *
  exact cmpB_eq (by omega)
theorem ltB_ntrans {a b c : Bs} (h : ltB a b = false) (k : ltB b c = false) : ltB a c = false := by
  cases e : ltB a c with
  | false => rfl
  | true =>
    cases e1 : ltB b a with
    | true => rw [ltB_trans e1 e] at k; cases k
    | false => rw [ltB_total h e1] at e; rw [e] at k; cases k

/-- An id by its length. -/
abbrev Id32 := { a : Bs // a.length = 32 }
instance : Inhabited Id32 := ⟨⟨List.replicate 32 0, by simp⟩⟩
def encI (x : Id32) : List Value := encB x.1
def cmpI (x y : Id32) : Int := cmpB x.1 y.1
theorem swoI : SWO (Go.Proofs.ltOf cmpI) where
  irrefl x := ltB_irrefl x.1
  trans _ _ _ h k := ltB_trans (a := _) h k
  ntrans _ _ _ h k := ltB_ntrans (a := _) h k

theorem encI_length (x : Id32) : (encI x).length = 32 := by simp [encI, encB, x.2]

theorem flat_get {α : Type} [Inhabited α] (enc : α → List Value) (k : Nat) (hk : ∀ x, (enc x).length = k) (k0 : 0 < k) : ∀ (l : List α) (j : Nat), j < l.length * k → (l.flatMap enc)[j]? = some ((enc l[j / k]!)[j % k]!)
  | [], j, h => by simp at h
  | x :: l, j, h => by
    rw [List.flatMap_cons]
    by_cases hj : j < k
    · rw [List.getElem?_append_left (by rw [hk]; exact hj), Nat.div_eq_of_lt hj, Nat.mod_eq_of_lt hj]
      have : j < (enc x).length := by rw [hk]; exact hj
      simp [this]
    · have hj : k ≤ j := by omega
      rw [List.getElem?_append_right (by rw [hk]; exact hj), hk, flat_get enc k hk k0 l (j - k) (by simp [Nat.add_mul] at h; omega)]
      have e1 : j / k = (j - k) / k + 1 := by rw [Nat.div_eq j k, if_pos ⟨k0, hj⟩]
      have e2 : (j - k) % k = j % k := by rw [Nat.mod_eq j k, if_pos ⟨k0, hj⟩]
      rw [e1, e2]
      simp
theorem flat_length {α : Type} (enc : α → List Value) (k : Nat) (hk : ∀ x, (enc x).length = k) (l : List α) : (l.flatMap enc).length = l.length * k := by
  induction l with
  | nil => simp
  | cons x l ih => simp [ih, hk, Nat.add_mul]; omega

theorem flatK_list {α : Type} [Inhabited α] (enc : α → List Value) (k : Nat) (hk : ∀ x, (enc x).length = k) (k0 : 0 < k) (d : Array α) : (flatK enc k d).toList = d.toList.flatMap enc := by
  apply List.ext_getElem?
  intro j
  by_cases h : j < d.size * k
  · have h1 : j < (flatK enc k d).size := by simpa using h
    have := get_flatK enc k d j h
    rw [getElem!_pos _ j h1] at this
    rw [flat_get enc k hk k0 _ _ (by simpa using h)]
    have e : d.toList[j / k]! = d[j / k]! := by rw [List.getElem!_eq_getElem?_getD, Array.getElem!_eq_getD, Array.getD_eq_getD_getElem?, Array.getElem?_toList]
    rw [Array.getElem?_toList, Array.getElem?_eq_getElem h1, this, e]
  · rw [List.getElem?_eq_none (by simp; omega), List.getElem?_eq_none (by rw [flat_length enc k hk]; simp; omega)]

theorem putCells_list (F C : Array Value) (h : F.size ≤ C.size) : (putCells id 0 F C).toList = F.toList ++ C.toList.drop F.size := by
  apply List.ext_getElem?
  intro j
  simp only [putCells, Array.getElem?_toList, Array.getElem?_mapIdx, Nat.zero_le, true_and, Nat.zero_add, Nat.sub_zero, id]
  by_cases hj : j < F.size
  · have h1 : j < C.size := by omega
    rw [List.getElem?_append_left (by simpa using hj)]
    simp [h1, hj]
  · rw [List.getElem?_append_right (by simpa using hj), List.getElem?_drop]
    have e : F.size + (j - F.toList.length) = j := by simp; omega
    rw [e]
    cases hc : C[j]? with
    | none => simp [hc]
    | some y => simp [hc, hj]

theorem bytes_laid {σ : St} : ∀ (a : Bs), RepL σ (bytesV a) (encB a)
  | [] => rfl
  | b :: a => ⟨[.int .u8 b.toNat], encB a, rfl, rfl, bytes_laid a⟩
theorem bytes_uniq {σ : St} : ∀ {a : Bs} {cs : List Value}, RepL σ (bytesV a) cs → cs = encB a
  | [], cs, h => h
  | b :: a, cs, h => by
    obtain ⟨c, d, rfl, h1, h2⟩ := h
    have h1 : c = [.int .u8 b.toNat] := h1
    rw [h1, bytes_uniq h2]
    rfl
theorem ids_cells {σ : St} : ∀ (l : List Bs), RepL σ (l.map idV) (l.flatMap encB)
  | [] => rfl
  | a :: l => ⟨encB a, l.flatMap encB, rfl, bytes_laid a, ids_cells l⟩
theorem ids_split {σ : St} : ∀ {l : List Bs} {ex : List V} {cs : List Value}, RepL σ (l.map idV ++ ex) cs → ∃ rest, cs = l.flatMap encB ++ rest ∧ RepL σ ex rest
  | [], ex, cs, h => ⟨cs, rfl, h⟩
  | a :: l, ex, cs, h => by
    obtain ⟨c, d, rfl, h1, h2⟩ := h
    obtain ⟨rest, h3, h4⟩ := ids_split h2
    have h1 : c = encB a := bytes_uniq h1
    exact ⟨rest, by rw [h1, h3]; simp, h4⟩

/-- The same ids, rising. -/
def sortB (l : List Bs) : List Bs := l.mergeSort fun x y => !ltB y x
theorem sortB_perm (l : List Bs) : (sortB l).Perm l := List.mergeSort_perm _ _
theorem sortB_length (l : List Bs) : (sortB l).length = l.length := (sortB_perm l).length_eq

/-- Ids with their length told. -/
def told (l : List Bs) (h : ∀ a ∈ l, a.length = 32) : List Id32 := l.pmap (fun a h => ⟨a, h⟩) h
theorem told_val (l : List Bs) (h : ∀ a ∈ l, a.length = 32) : (told l h).map Subtype.val = l := by
  unfold told
  rw [List.map_pmap]
  simp
theorem told_flat (m : List Id32) : m.flatMap encI = (m.map Subtype.val).flatMap encB := by
  rw [List.flatMap_map]
  rfl
theorem told_sort (m : List Id32) : (m.mergeSort fun x y => !(Go.Proofs.ltOf cmpI) y x).map Subtype.val = sortB (m.map Subtype.val) := by
  unfold sortB
  rw [List.map_mergeSort]
  intro a _ b _
  rfl
end Go.Abs
end
