/-
  Patches in order by the program: contracts. Patches that are few and short: contracts. The law's functions: contracts.
  Conditions: those that stand ahead of each theorem; no more.
-/
import Derived.Test.YtblnejkfaniljaaGreatDoorT33

section
namespace Go.Abs
open Go
set_option maxRecDepth 20000

def keysE (l : List Entry) : List V := l.map fun e => idV e.1
def patsE (l : List Entry) : List V := l.map fun e => patchV e.2
def idsE (l : List Entry) : List Bs := l.map (·.1)
section
variable (d : Nat → Bool) (H : HP) (F : Option (V → V)) (m : Nat) (l : List Entry)
@[simp] theorem keysE_fzL : fzL d H F (keysE l) = keysE l := (clo_list (fun n : Entry => clo_id n.1) l).2.2 d H F
@[simp] theorem keysE_underL : V.underL m (keysE l) = true := (clo_list (fun n : Entry => clo_id n.1) l).1 m
@[simp] theorem patsE_fzL : fzL d H F (patsE l) = patsE l := (clo_list (fun n : Entry => clo_patch n.2) l).2.2 d H F
@[simp] theorem patsE_underL : V.underL m (patsE l) = true := (clo_list (fun n : Entry => clo_patch n.2) l).1 m
@[simp] theorem keysE_mapz (n : Nat) : (keysE l).map (fz d H n) = keysE l := by
  conv => rhs; rw [← List.map_id (keysE l)]
  exact List.map_congr_left fun x hx => by obtain ⟨a, _, rfl⟩ := List.mem_map.1 hx; exact (clo_id a.1).fz _ _ _
@[simp] theorem patsE_mapz (n : Nat) : (patsE l).map (fz d H n) = patsE l := by
  conv => rhs; rw [← List.map_id (patsE l)]
  exact List.map_congr_left fun x hx => by obtain ⟨a, _, rfl⟩ := List.mem_map.1 hx; exact (clo_patch a.2).fz _ _ _
@[simp] theorem keysE_length : (keysE l).length = l.length := by simp [keysE]
@[simp] theorem patsE_length : (patsE l).length = l.length := by simp [patsE]
@[simp] theorem patsE_plain : (∀ x ∈ patsE l, x.plain = true) ↔ True := ⟨fun _ => trivial, fun _ x hx => by
  obtain ⟨n, _, rfl⟩ := List.mem_map.1 hx; rfl⟩
end
theorem keysE_fits {l : List Entry} (h : ∀ n ∈ l, n.1.length = 32) : ∀ x ∈ keysE l, TD.fits (.arr 32 (.int .u8)) x = true := by
  intro x hx
  obtain ⟨n, hn, rfl⟩ := List.mem_map.1 hx
  exact id_fits (h n hn)
theorem lookE_no {l : List Entry} {a : Bs} (h : ¬ a ∈ idsE l) : findV (idV a) (keysE l) 0 = none := findV_none fun x hx e => h (List.mem_map.2 ⟨x, hx, e.symm⟩)
theorem lookE_yes {l : List Entry} {a : Bs} (h : a ∈ idsE l) : ∃ i, findV (idV a) (keysE l) 0 = some i ∧ (patsE l)[i]? = some (patchV (findB l a)) ∧ ∃ e ∈ l, findB l a = e.2 := by
  obtain ⟨e, he, e1⟩ := List.mem_map.1 h
  obtain ⟨i, hi, h1, h2, h3⟩ := findV_some (f := fun e : Entry => e.1) (a := a) (l := l) ⟨e, he, e1.symm⟩
  have h4 : findB l a = l[i].2 := by
    have hp : (fun e : Entry => decide (e.1 = a)) = fun e => decide (a = e.1) := by funext e; rw [decide_eq_decide]; exact eq_comm
    rw [findB, hp, h3]
  exact ⟨i, h1, by rw [h4]; simp [patsE, hi], l[i], List.getElem_mem hi, h4⟩

theorem f_bundle_Sorted_1 (p : Patch) (h : p.Ok) (ids : List Bs) (hi : p.deps.length + ids.length < 1100000) (hh : ∀ a ∈ ids, a.length = 32) :
    TCp Pg n_bundle_Sorted_1 [patchV p, .box (.sl 32 (ids.map idV) .view)] (.sl 32 ((mergeB (fun x y => x && y) p.deps ids).map idV) .view) := by
  have s1 := id_shape h.key
  refine TCp.bodyV k_bundle_Sorted_1 hP rfl (by simp) (by simp) ?_
  simp [c_bundle_Sorted_1, r_bundle_Sorted_1, patchV]
  refine CallB.p (f_id_Both p.deps ids hi h.deps.ids hh) ?_
  simp

theorem merge_sub (p : Bool → Bool → Bool) : ∀ (a b : List Bs), (∀ x ∈ mergeB p a b, x ∈ a ∨ x ∈ b) ∧ (mergeB p a b).length ≤ a.length + b.length := by
  intro a b
  induction a, b using mergeB.induct with
  | case1 => simp [mergeB]
  | case2 x a ih =>
    rw [mergeB]
    refine ⟨fun y hy => ?_, ?_⟩
    · rcases List.mem_append.1 hy with hy | hy
      · split at hy <;> simp_all
      · rcases ih.1 y hy with h | h <;> simp [h]
    · have := ih.2
      split <;> simp at this ⊢ <;> omega
  | case3 y b ih =>
    rw [mergeB]
    refine ⟨fun z hz => ?_, ?_⟩
    · rcases List.mem_append.1 hz with hz | hz
      · split at hz <;> simp_all
      · rcases ih.1 z hz with h | h <;> simp_all
    · have := ih.2
      split <;> simp at this ⊢ <;> omega
  | case4 x a y b h ih =>
    rw [mergeB, if_pos h]
    refine ⟨fun z hz => ?_, ?_⟩
    · rcases List.mem_append.1 hz with hz | hz
      · split at hz <;> simp_all
      · rcases ih.1 z hz with h | h <;> simp_all
    · have := ih.2
      split <;> simp at this ⊢ <;> omega
  | case5 x a y b h h' ih =>
    rw [mergeB, if_neg h, if_pos h']
    refine ⟨fun z hz => ?_, ?_⟩
    · rcases List.mem_append.1 hz with hz | hz
      · split at hz <;> simp_all
      · rcases ih.1 z hz with h | h <;> simp_all
    · have := ih.2
      split <;> simp at this ⊢ <;> omega
  | case6 x a y b h h' ih =>
    rw [mergeB, if_neg h, if_neg h']
    refine ⟨fun z hz => ?_, ?_⟩
    · rcases List.mem_append.1 hz with hz | hz
      · split at hz <;> simp_all
      · rcases ih.1 z hz with h | h <;> simp_all
    · have := ih.2
      split <;> simp at this ⊢ <;> omega

theorem lineB_ok (l : List Node) (ids out : List Bs) : (lineB l ids out).length ≤ out.length + (ids.filter fun x => !out.contains x).length ∧ ∀ a ∈ lineB l ids out, a ∈ out ∨ a ∈ ids := by
  induction out using lineB.induct l ids with
  | case1 out a h ih =>
    rw [lineB_some h]
    have hm := List.mem_of_find?_eq_some h
    have hlt := left_lt hm (ready_no (List.find?_some h))
    refine ⟨by have := ih.1; rw [List.length_append] at this; simp only [List.length_cons, List.length_nil] at this; omega, fun b hb => ?_⟩
    rcases ih.2 b hb with h | h
    · rcases List.mem_append.1 h with h | h
      · exact .inl h
      · have : b = a := by simpa using h
        subst this; exact .inr hm
    · exact .inr h
  | case2 out h =>
    rw [lineB_none h]
    exact ⟨by omega, fun a ha => .inl ha⟩
theorem lineB_len (l : List Node) (ids : List Bs) : (lineB l ids []).length ≤ ids.length := by
  have h1 := (lineB_ok l ids []).1
  have h2 := List.length_filter_le (fun x => !([] : List Bs).contains x) ids
  simp only [List.length_nil] at h1
  omega

section
variable (d : Nat → Bool) (H : HP) (F : Option (V → V)) (m : Nat) (l : List Node)
@[simp high] theorem graph_un : (graphV l).un = (true, graphV l) := rfl
@[simp high] theorem graph_plain : (graphV l).plain = true := rfl
@[simp] theorem graph_vw : (graphV l).vw = graphV l := rfl
@[simp] theorem graph_under : (graphV l).under m = true := by simp [graphV]
@[simp] theorem graph_fzW : fzW d H F (graphV l) = graphV l := fzW_under d H F _ (graph_under 0 l)
end

/-- Entries, the first of each id. -/
def firstE (l : List Entry) : List Entry := l.foldl (fun o e => if e.1 ∈ idsE o then o else o ++ [e]) []
theorem firstE_snoc (l : List Entry) (e : Entry) : firstE (l ++ [e]) = if e.1 ∈ idsE (firstE l) then firstE l else firstE l ++ [e] := by unfold firstE; rw [List.foldl_append]; rfl
theorem firstE_sub : ∀ n (l : List Entry), l.length = n → (∀ e ∈ firstE l, e ∈ l) ∧ (firstE l).length ≤ n
  | 0, l, h => by have : l = [] := List.length_eq_zero_iff.1 h; subst this; simp [firstE]
  | n + 1, l, h => by
    have hne : l ≠ [] := by rintro rfl; simp at h
    obtain ⟨ih1, ih2⟩ := firstE_sub n l.dropLast (by simp [h])
    rw [← List.dropLast_concat_getLast hne, firstE_snoc]
    split
    · exact ⟨fun e he => List.mem_append_left _ (ih1 e he), by omega⟩
    · refine ⟨fun e he => ?_, by simp; omega⟩
      rcases List.mem_append.1 he with he | he
      · exact List.mem_append_left _ (ih1 e he)
      · exact List.mem_append_right _ he

/-- The program's nodes of patches. -/
def sortIds (l : List Patch) : List Bs := dedB (sortB (idsE (firstE (named l))))
def progNodes (l : List Patch) : List Node := (sortIds l).map fun a => (a, mergeB (fun x y => x && y) (findB (firstE (named l)) a).deps (sortIds l))
def progErr (l : List Patch) : Int := if namedErr l = 0 then newErr (progNodes l) else namedErr l
def progOrder (l : List Patch) : List Bs := lineB (progNodes l) (dedB (sortB (idsOf (progNodes l)))) []
def progSorted (l : List Patch) : List Patch := (progOrder l).map (findB (firstE (named l)))

set_option maxHeartbeats 4000000 in
theorem f_bundle_Sorted (l : List Patch) (hl : l.length < 100) (h : ∀ p ∈ l, p.Ok) (hd : ∀ p ∈ l, p.deps.length < 1000) (hb : ∀ p ∈ l, (bytesB p).length < 100000000) :
    TCp Pg n_bundle_Sorted [.sl 39 (l.map patchV) .view] (.tup [.sl 39 ((if progErr l = 0 then progSorted l else []).map patchV) .view, .int .i64 (progErr l)]) := by
  refine TCp.bodyT k_bundle_Sorted hP rfl (by simp) (by simp [V.under, V.underL]) ?_
  generalize hR : V.tup [.sl 39 ((if progErr l = 0 then progSorted l else []).map patchV) .view, .int .i64 (progErr l)] = R
  simp [c_bundle_Sorted, r_bundle_Sorted]
  refine AW_wloopW (fun j : Nat => [(4, .map 0), (5, .ptr 1 []), (22, .sl 39 (l.map patchV) .view), (23, .int .i64 l.length), (24, .int .i64 j)])
    (fun j => [.map (keysE (firstE (named (l.take j)))) (patsE (firstE (named (l.take j)))), .cell (.sl 32 ((idsE (firstE (named (l.take j)))).map idV) (.row 2)), .row (idsE (firstE (named (l.take j)))).length 32]) (fun j => j ≤ l.length ∧ ∀ i, (q : i < l.length) → i < j → bytesErr l[i] = 0) (fun j => l.length - j) 0 ⟨Nat.zero_le _, fun i _ q => by omega⟩
    ((Weak.openAt 1 [] 32 (v' := .sl 32 [] (.row 2)) rfl rfl rfl).trans (Weak.of_eq (by simp) (by simp [keysE, patsE, idsE, firstE, named]))) ?_
  rintro j ⟨hj, hno⟩
  rcases Nat.lt_or_ge j l.length with h' | h'
  · have hk2 := i64_succ j (by omega)
    have hm : l[j] ∈ l := List.getElem_mem h'
    have hbad := namedErr_bad h' hno
    have hta := take_snoc l j h'
    generalize hx : l[j] = x at hm hbad hta
    have s2 := patch_shape (h x hm).key
    have hs2 : (patchV x).shape.size = 39 := by rw [s2]; rfl
    have h32 : (patchId x).length = 32 := sha_length _
    have s3 := id_shape h32
    have f3 := id_fits h32
    have hEs := firstE_sub _ (named (l.take j)) rfl
    have hEn : ∀ e ∈ named (l.take j), e.1.length = 32 ∧ e.2 ∈ l := by
      intro e he
      obtain ⟨p, hp, rfl⟩ := List.mem_map.1 he
      exact ⟨sha_length _, List.mem_of_mem_take hp⟩
    have hE : ∀ e ∈ firstE (named (l.take j)), e.1.length = 32 ∧ e.2 ∈ l := fun e he => hEn e (hEs.1 e he)
    have hEl := hEs.2
    rw [show (named (l.take j)).length = j by simp [named]; omega] at hEl
    have hnx : firstE (named (l.take (j + 1))) = if patchId x ∈ idsE (firstE (named (l.take j))) then firstE (named (l.take j)) else firstE (named (l.take j)) ++ [(patchId x, x)] := by
      rw [hta]
      have : named (l.take j ++ [x]) = named (l.take j) ++ [(patchId x, x)] := by simp [named]
      rw [this, firstE_snoc]
    generalize firstE (named (l.take j)) = E at *
    have f2 := keysE_fits fun n hn => (hE n hn).1
    simp [h', hx, s2]
    refine CallB.p (f_patch_Id x (h x hm) (hb x hm)) ?_
    by_cases e : bytesErr x = 0
    · have hnext : ∀ i, (q : i < l.length) → i < j + 1 → bytesErr l[i] = 0 := by
        intro i hi hlt
        rcases Nat.lt_or_ge i j with q | q
        · exact hno i hi q
        · have : i = j := by omega
          subst this
          rw [hx]; exact e
      have hEi : (idsE E).length = E.length := by simp [idsE]
      by_cases hin : patchId x ∈ idsE E
      · rw [if_pos hin] at hnx
        obtain ⟨i, h5, h6, e', he', h7⟩ := lookE_yes hin
        have s4 := patch_shape (h (findB E (patchId x)) (h7 ▸ (hE e' he').2)).key
        simp [e, s3, f3, h5, h6, s4]
        exact ⟨f2, j + 1, ⟨h', hnext⟩, by omega, Weak.tidy [4, 5, 22, 23, 24] 3 (by omega) (by simp) (by simp [underH]) (by simp [hk2]) (by simp [hnx])⟩
      · rw [if_neg hin] at hnx
        have h5 := lookE_no hin
        simp [e, s2, s3, f3, h5]
        exact ⟨f2, by omega, j + 1, ⟨h', hnext⟩, by omega, Weak.tidy [4, 5, 22, 23, 24] 3 (by omega) (by simp) (by simp [underH]) (by simp [hk2]) (by simp [hnx, keysE, patsE, idsE])⟩
    · have he : progErr l = bytesErr x := by unfold progErr; rw [hbad e, if_neg e]
      have hz : (idV zero32).shape = .agg (List.replicate 32 .one) := id_shape rfl
      simp [e, hz]
      rw [← hR, he]
      simp [e]
  · have : j = l.length := by omega
    subst this
    rw [List.take_length]
    have h0 : namedErr l = 0 := namedErr_ok fun p hm => by
      obtain ⟨i, hi, rfl⟩ := List.mem_iff_getElem.1 hm
      exact hno i hi hi
    have hEs := firstE_sub _ (named l) rfl
    have hEn : ∀ e ∈ named l, e.1.length = 32 ∧ e.2 ∈ l := by
      intro e he
      obtain ⟨p, hp, rfl⟩ := List.mem_map.1 he
      exact ⟨sha_length _, hp⟩
    have hE : ∀ e ∈ firstE (named l), e.1.length = 32 ∧ e.2 ∈ l := fun e he => hEn e (hEs.1 e he)
    have hEl := hEs.2
    rw [show (named l).length = l.length by simp [named]] at hEl
    have hpe : progErr l = newErr (progNodes l) := by unfold progErr; rw [if_pos h0]
    rw [hpe] at hR
    unfold progSorted progOrder at hR
    unfold progNodes sortIds at hR
    generalize firstE (named l) = E at *
    have q1 : (idsE E).length = E.length := by simp [idsE]
    have q2 : ∀ a ∈ idsE E, a.length = 32 := by
      intro a ha; obtain ⟨n, hn, rfl⟩ := List.mem_map.1 ha; exact (hE n hn).1
    have q3 := sorted_len (idsE E)
    have q4 := sorted_ids q2
    simp
    refine CallB.p (f_id_Sort (idsE E) (by omega) q2) ?_
    have q5 : ∀ a ∈ dedB (sortB (idsE E)), a ∈ idsE E := fun a ha => (sortB_perm _).mem_iff.1 (depB_ids.dedB_sub _ ha)
    generalize dedB (sortB (idsE E)) = S at *
    simp
    have hF : ∀ a ∈ S, (findB E a).Ok ∧ findB E a ∈ l := fun a ha => by
      obtain ⟨i, _, _, e, he, h7⟩ := lookE_yes (q5 a ha)
      rw [h7]; exact ⟨h _ (hE e he).2, (hE e he).2⟩
    have f2 := keysE_fits fun n hn => (hE n hn).1
    generalize hN : (fun a => (a, mergeB (fun x y => x && y) (findB E a).deps S)) = N at hR
    have hN2 : ∀ a, N a = (a, mergeB (fun x y => x && y) (findB E a).deps S) := fun a => by rw [← hN]
    refine AW_wloopW (fun j : Nat => [(4, .mapv (keysE E) (patsE E)), (12, .fn n_bundle_Sorted_1 [] [.box (.sl 32 (S.map idV) .view)]), (13, .sl 33 (((S.take j).map N).map nodeV) (.row 0)), (55, .sl 32 (S.map idV) .view), (56, .int .i64 S.length), (57, .int .i64 j)]) (fun j => [.row j 33]) (fun j => j ≤ S.length) (fun j => S.length - j) 0 (Nat.zero_le _)
      (((Weak.fz (fun _ => true) 8 (fun t ht => by omega)).trans (Weak.tidy [4, 12, 13, 55, 56, 57] 0 (Nat.le_refl _) (tm' := [(4, .mapv (keysE E) (patsE E)), (12, .fn n_bundle_Sorted_1 [] [.box (.sl 32 (S.map idV) .view)]), (13, .sl 33 [] .full), (55, .sl 32 (S.map idV) .view), (56, .int .i64 S.length), (57, .int .i64 0)]) (H' := []) (by simp) rfl (by simp [fzTM]) (by simp))).trans
        ((Weak.open 13 33 rfl).trans (Weak.of_eq (by simp [setTM]) (by simp)))) ?_
    intro j hj
    rcases Nat.lt_or_ge j S.length with h' | h'
    · have hk2 := i64_succ j (by omega)
      obtain ⟨a, ha, hta, hm⟩ := at_k h'
      have s1 := id_shape (q4 a hm)
      have f1 := id_fits (q4 a hm)
      obtain ⟨i, h5, h6, _⟩ := lookE_yes (q5 a hm)
      have hfa := hF a hm
      have s4 := patch_shape hfa.1.key
      have hda := hd _ hfa.2
      have hnt : (S.take (j + 1)).map N = (S.take j).map N ++ [N a] := by rw [hta]; simp
      have hnl : ((S.take j).map N).length = j := by simp; omega
      simp [h', ha, s1, f1, h5, h6]
      refine ⟨f2, CallQ.of (f_bundle_Sorted_1 _ hfa.1 S (by omega) q4) ?_⟩
      have hmin : min j S.length = j := by omega
      simp [s1, hk2, hmin]
      refine ⟨by omega, j + 1, h', by omega, ?_⟩
      rw [show List.take (j + 1) (List.map (nodeV ∘ N) S) = ((S.take (j + 1)).map N).map nodeV by simp]
      refine Weak.tidy [4, 12, 13, 55, 56, 57] 1 (by omega) (by simp [-List.map_map, -List.map_take]) rfl ?_ (by simp)
      rw [hnt]
      simp [nodeV, hN2]
    · have : j = S.length := by omega
      subst this
      rw [List.take_length]
      simp
      rw [← List.map_map]
      have hS : S.length < 100 := by omega
      have n1 : ∀ n ∈ S.map N, Node.Ok n ∧ n.2.length < 2000 := by
        intro n hn
        obtain ⟨a, ha, rfl⟩ := List.mem_map.1 hn
        have hfa := hF a ha
        have hda := hd _ hfa.2
        have hms := merge_sub (fun x y => x && y) (findB E a).deps S
        rw [hN2]
        refine ⟨⟨q4 a ha, ⟨by have := hms.2; dsimp only; omega, fun x hx => ?_⟩⟩, by have := hms.2; dsimp only; omega⟩
        rcases hms.1 x hx with h | h
        · exact hfa.1.deps.ids x h
        · exact q4 x h
      have n2 : (S.map N).length = S.length := by simp
      have n3 : (allDeps (S.map N)).length ≤ (S.map N).length * 2000 := by
        have : ∀ l : List Node, (∀ n ∈ l, n.2.length < 2000) → (allDeps l).length ≤ l.length * 2000 := by
          intro l
          induction l with
          | nil => intro _; simp [allDeps]
          | cons x l ih =>
            intro hl
            have h1 := hl x (by simp)
            have h2 := ih fun n hn => hl n (by simp [hn])
            simp only [allDeps, List.flatMap_cons, List.length_append, List.length_cons] at h2 ⊢
            omega
        exact this _ fun n hn => (n1 n hn).2
      have n4 : idsOf (S.map N) = S := by
        simp only [idsOf, List.map_map]
        conv => rhs; rw [← List.map_id S]
        exact List.map_congr_left fun a _ => by simp [hN2]
      rw [n4] at hR
      have n5 := sorted_len S
      have n6 : ∀ a ∈ dedB (sortB S), a ∈ S := fun a ha => (sortB_perm _).mem_iff.1 (depB_ids.dedB_sub _ ha)
      have n7 := lineB_len (S.map N) (dedB (sortB S))
      have n8 := (lineB_ok (S.map N) (dedB (sortB S)) []).2
      have gN := f_graph_New (S.map N) (fun n hn => (n1 n hn).1) (by omega) (by omega)
      have gO := f_graph_Order (S.map N) (fun n hn => (n1 n hn).1) (by rw [n4]; omega)
      rw [n4] at gO
      generalize lineB (S.map N) (dedB (sortB S)) [] = B at *
      refine CallB.p gN ?_
      by_cases e : newErr (S.map N) = 0
      · simp [e] at hR
        simp [e]
        refine CallB.p gO ?_
        simp
        refine AW_wloopW (fun j : Nat => [(4, .mapv (keysE E) (patsE E)), (18, .sl 39 (((B.take j).map (findB E)).map patchV) (.row 0)), (81, .sl 32 (B.map idV) .view), (82, .int .i64 B.length), (83, .int .i64 j)]) (fun j => [.row j 39]) (fun j => j ≤ B.length) (fun j => B.length - j) 0 (Nat.zero_le _)
          ((Weak.tidy [4, 18, 81, 82, 83] 0 (Nat.le_refl _) (tm' := [(4, .mapv (keysE E) (patsE E)), (18, .sl 39 [] .full), (81, .sl 32 (B.map idV) .view), (82, .int .i64 B.length), (83, .int .i64 0)]) (H' := []) (by simp) rfl (by simp) (by simp)).trans
            ((Weak.open 18 39 rfl).trans (Weak.of_eq (by simp [setTM]) (by simp)))) ?_
        intro j hj
        rcases Nat.lt_or_ge j B.length with h' | h'
        · have hk2 := i64_succ j (by omega)
          obtain ⟨a, ha, hta, hm⟩ := at_k h'
          have hmS : a ∈ S := by
            rcases n8 a hm with h | h
            · simp at h
            · exact n6 a h
          have s1 := id_shape (q4 a hmS)
          have f1 := id_fits (q4 a hmS)
          obtain ⟨i, h5, h6, _⟩ := lookE_yes (q5 a hmS)
          have hfa := hF a hmS
          have s4 := patch_shape hfa.1.key
          have hs4 : (patchV (findB E a)).shape.size = 39 := by rw [s4]; rfl
          have hnt : (B.take (j + 1)).map (findB E) = (B.take j).map (findB E) ++ [findB E a] := by rw [hta]; simp
          simp [h', ha, s1, f1, h5, h6]
          refine ⟨f2, CallB.p (f_patch_Clone _ hfa.1) ?_⟩
          have hmin : min j B.length = j := by omega
          simp [s4, hk2, hmin]
          refine ⟨by omega, j + 1, h', by omega, ?_⟩
          rw [show List.take (j + 1) (List.map (patchV ∘ findB E) B) = ((B.take (j + 1)).map (findB E)).map patchV by simp]
          refine Weak.tidy [4, 18, 81, 82, 83] 1 (by omega) (by simp [-List.map_map, -List.map_take]) rfl ?_ (by simp)
          rw [hnt]
          simp
        · have : j = B.length := by omega
          subst this
          rw [List.take_length]
          simp
          rw [← List.map_map] at hR ⊢
          rw [patches_fzL]
          exact ⟨hR, patches_underL _ _⟩
      · simp [e] at hR
        simp [e]
        exact hR
end Go.Abs
end

section
namespace Go.Abs
open Go
set_option maxRecDepth 20000

def longS (l : List Bs) : Bool := l.any fun s => decide (300 < s.length)
def longOp (o : POp) : Bool := decide (300 < o.path.length) || decide (300 < o.dest.length) || decide (40 < o.old.length) || decide (40 < o.new.length) || [o.old, o.new].any longS

def strsV (l : List Bs) : V := .sl 1 (l.map strV) .view
theorem clo_strs (l : List Bs) : Clo (strsV l) := clo_sl clo_strV _ _
section
variable (d : Nat → Bool) (H : HP) (F : Option (V → V)) (m : Nat) (l : List Bs) (k : List (List Bs))
@[simp high] theorem strs_un : (strsV l).un = (true, strsV l) := rfl
@[simp high] theorem strs_plain : (strsV l).plain = true := rfl
@[simp] theorem strs_shape : (strsV l).shape = .one := rfl
@[simp] theorem strss_underL : V.underL m (k.map strsV) = true := (clo_list clo_strs k).1 m
@[simp] theorem strs_isAgg : isAggV (strsV l) = false := rfl
end

set_option maxHeartbeats 1000000 in
theorem f_ref13_Long (o : POp) (h : o.Ok) : TCp Pg n_ref13_Long [popV o] (.bool (longOp o)) := by
  have s1 := id_shape h.key
  have ho := h.old
  have hn := h.new
  refine TCp.body k_ref13_Long hP rfl (by simp) rfl ?_
  by_cases d1 : 300 < o.path.length
  · have i1 : 300 < (o.path.length : Int) := by omega
    simp [c_ref13_Long, r_ref13_Long, popV, i1, longOp, d1]
  have i1 : ¬ 300 < (o.path.length : Int) := by omega
  by_cases d2 : 300 < o.dest.length
  · have i2 : 300 < (o.dest.length : Int) := by omega
    simp [c_ref13_Long, r_ref13_Long, popV, i1, i2, longOp, d1, d2]
  have i2 : ¬ 300 < (o.dest.length : Int) := by omega
  by_cases d3 : 40 < o.old.length
  · have i3 : 40 < (o.old.length : Int) := by omega
    simp [c_ref13_Long, r_ref13_Long, popV, i1, i2, i3, longOp, d1, d2, d3]
  have i3 : ¬ 40 < (o.old.length : Int) := by omega
  by_cases d4 : 40 < o.new.length
  · have i4 : 40 < (o.new.length : Int) := by omega
    simp [c_ref13_Long, r_ref13_Long, popV, i1, i2, i3, i4, longOp, d1, d2, d3, d4]
  have i4 : ¬ 40 < (o.new.length : Int) := by omega
  have hl : longOp o = [o.old, o.new].any longS := by simp [longOp, d1, d2, d3, d4]
  rw [hl]
  generalize hB : [o.old, o.new].any longS = B
  have hrow : V.sl 1 [.sl 1 (o.old.map strV) .view, .sl 1 (o.new.map strV) .view] .full = .sl 1 ([o.old, o.new].map strsV) .full := rfl
  have hR : ∀ x ∈ [o.old, o.new], x.length < 1100000 := by simp; exact ⟨ho, hn⟩
  simp [c_ref13_Long, r_ref13_Long, popV, i1, i2, i3, i4]
  rw [hrow]
  have hRl : [o.old, o.new].length = 2 := rfl
  generalize [o.old, o.new] = R at *
  refine AW_wloop (fun j : Nat => [(33, .sl 1 (R.map strsV) .full), (34, .int .i64 2), (35, .int .i64 j)]) (fun _ => []) (fun j => j ≤ R.length ∧ (R.take j).any longS = false) (fun j => R.length - j) 0 ⟨Nat.zero_le _, rfl⟩ (Weak.tidy [33, 34, 35] 0 (Nat.le_refl _) (by simp) rfl (by simp) (by simp)) ?_
  rintro j ⟨hj, hno⟩
  rcases Nat.lt_or_ge j R.length with h' | h'
  · have hk1 := i64_succ j (by omega)
    have hjj : (j : Int) < 2 := by omega
    obtain ⟨x, hx, hta, hm⟩ := at_k h'
    have hxl := hR x hm
    simp [hjj, h', hx, strsV]
    have hls : longS x = x.any fun s => decide (300 < s.length) := rfl
    refine AW_wloop (fun k : Nat => [(33, .sl 1 (R.map strsV) .full), (34, .int .i64 2), (35, .int .i64 j), (39, .sl 1 (x.map strV) .view), (40, .int .i64 x.length), (41, .int .i64 k)]) (fun _ => []) (fun k => k ≤ x.length ∧ longS (x.take k) = false) (fun k => x.length - k) 0 ⟨Nat.zero_le _, rfl⟩ (Weak.of_eq (by simp) (by simp)) ?_
    rintro k ⟨hk, hno2⟩
    rcases Nat.lt_or_ge k x.length with h'' | h''
    · have hk2 := i64_succ k (by omega)
      obtain ⟨y, hy, htb, hym⟩ := at_k h''
      by_cases hlong : 300 < y.length
      · have hli : 300 < (y.length : Int) := by omega
        have hlx : longS x = true := List.any_eq_true.2 ⟨y, hym, by simpa using hlong⟩
        have hBt : B = true := by rw [← hB]; exact List.any_eq_true.2 ⟨x, hm, hlx⟩
        simp [h'', hy, strV, hli, hBt]
      · have hli : ¬ 300 < (y.length : Int) := by omega
        have hnx : longS (x.take (k + 1)) = false := by
          rw [htb]
          unfold longS at hno2 ⊢
          rw [List.any_append, hno2]
          simpa using hlong
        simp [h'', hy, strV, hli, hk2]
        exact ⟨k + 1, ⟨h'', hnx⟩, by omega, by omega⟩
    · have : k = x.length := by omega
      subst this
      rw [List.take_length] at hno2
      have hnx : (R.take (j + 1)).any longS = false := by rw [hta, List.any_append, hno]; simpa using hno2
      simp [hk1]
      exact ⟨j + 1, ⟨h', by simpa using hnx⟩, by omega, by omega⟩
  · have : j = R.length := by omega
    have hjj : ¬ (j : Int) < 2 := by omega
    rw [this, List.take_length] at hno
    have hBf : B = false := by rw [← hB]; exact hno
    simp [hjj, hBf]

def longP (p : Patch) : Bool := decide (20 < p.deps.length) || decide (500 < p.note.length) || decide (36 < p.ops.length) || decide (20 < p.sign.shown.length) || decide (20 < p.sign.hidden.length) || decide (12 < p.sign.way.length) || p.ops.any longOp

set_option maxHeartbeats 1000000 in
theorem f_ref15_Long (p : Patch) (h : p.Ok) : TCp Pg n_ref15_Long [patchV p] (.bool (longP p)) := by
  have s1 := id_shape h.key
  refine TCp.body k_ref15_Long hP rfl (by simp) rfl ?_
  by_cases d1 : 20 < p.deps.length
  · have i1 : 20 < (p.deps.length : Int) := by omega
    simp [c_ref15_Long, r_ref15_Long, patchV, sigV, i1, longP, d1]
  have i1 : ¬ 20 < (p.deps.length : Int) := by omega
  by_cases d2 : 500 < p.note.length
  · have i2 : 500 < (p.note.length : Int) := by omega
    simp [c_ref15_Long, r_ref15_Long, patchV, sigV, s1, i1, i2, longP, d1, d2]
  have i2 : ¬ 500 < (p.note.length : Int) := by omega
  by_cases d3 : 36 < p.ops.length
  · have i3 : 36 < (p.ops.length : Int) := by omega
    simp [c_ref15_Long, r_ref15_Long, patchV, sigV, s1, i1, i2, i3, longP, d1, d2, d3]
  have i3 : ¬ 36 < (p.ops.length : Int) := by omega
  by_cases d4 : 20 < p.sign.shown.length
  · have i4 : 20 < (p.sign.shown.length : Int) := by omega
    simp [c_ref15_Long, r_ref15_Long, patchV, sigV, s1, i1, i2, i3, i4, longP, d1, d2, d3, d4]
  have i4 : ¬ 20 < (p.sign.shown.length : Int) := by omega
  by_cases d5 : 20 < p.sign.hidden.length
  · have i5 : 20 < (p.sign.hidden.length : Int) := by omega
    simp [c_ref15_Long, r_ref15_Long, patchV, sigV, s1, i1, i2, i3, i4, i5, longP, d1, d2, d3, d4, d5]
  have i5 : ¬ 20 < (p.sign.hidden.length : Int) := by omega
  by_cases d6 : 12 < p.sign.way.length
  · have i6 : 12 < (p.sign.way.length : Int) := by omega
    simp [c_ref15_Long, r_ref15_Long, patchV, sigV, s1, i1, i2, i3, i4, i5, i6, longP, d1, d2, d3, d4, d5, d6]
  have i6 : ¬ 12 < (p.sign.way.length : Int) := by omega
  have hl : longP p = p.ops.any longOp := by simp [longP, d1, d2, d3, d4, d5, d6]
  rw [hl]
  simp [c_ref15_Long, r_ref15_Long, patchV, sigV, s1, i1, i2, i3, i4, i5, i6]
  refine AW_wloopW (fun j : Nat => [(1, .ptr 0 []), (3, .int .i64 j)]) (fun _ => [.cell (patchV p)]) (fun j => j ≤ p.ops.length ∧ (p.ops.take j).any longOp = false) (fun j => p.ops.length - j) 0 ⟨Nat.zero_le _, rfl⟩ (Weak.of_eq (by simp) (by simp [patchV, sigV])) ?_
  rintro j ⟨hj, hno⟩
  rcases Nat.lt_or_ge j p.ops.length with h' | h'
  · have hk1 := i64_succ j (by omega)
    obtain ⟨x, hx, hta, hm⟩ := at_k h'
    have s2 := pop_shape (h.ops x hm).key
    simp [h', hx, patchV, s1, s2]
    refine CallB.p (f_ref13_Long x (h.ops x hm)) ?_
    cases e : longOp x with
    | true =>
      have : p.ops.any longOp = true := List.any_eq_true.2 ⟨x, hm, e⟩
      simp [this]
    | false =>
      have hnx : (p.ops.take (j + 1)).any longOp = false := by rw [hta, List.any_append, hno]; simpa using e
      simp [hk1]
      exact ⟨j + 1, ⟨h', by simpa using hnx⟩, by omega, Weak.of_eq (by simp) (by simp)⟩
  · have : j = p.ops.length := by omega
    subst this
    rw [List.take_length] at hno
    simp [patchV, s1, hno]

set_option maxHeartbeats 4000000 in
theorem f_ref18_Few (l : List Patch) (hl : l.length < 1100000) (h : ∀ p ∈ l, p.Ok) : TC Pg n_ref18_Few [.sl 39 (l.map patchV) .view] [] fun r H' => ∃ b, r = .bool b ∧ H' = [] ∧ (b = true → l.length ≤ 10 ∧ ∀ p ∈ l, longP p = false) := by
  refine TC.bodyS k_ref18_Few hP rfl ?_
  simp [c_ref18_Few, r_ref18_Few]
  refine AW_wloopW (fun q : Nat × Int => [(0, .sl 39 (l.map patchV) .view), (3, .int .i64 q.2), (4, .int .i64 q.1)]) (fun _ => []) (fun q => q.1 ≤ l.length ∧ ∀ p ∈ l.take q.1, longP p = false) (fun q => l.length - q.1) (0, 0) ⟨Nat.zero_le _, by simp⟩ (Weak.of_eq (by simp) (by simp)) ?_
  rintro ⟨j, m⟩ ⟨hj, hno⟩
  simp only at hj hno
  rcases Nat.lt_or_ge j l.length with h' | h'
  · have hk1 := i64_succ j (by omega)
    obtain ⟨x, hx, hta, hm⟩ := at_k h'
    have hok := h x hm
    have s1 := patch_shape hok.key
    have s2 := id_shape hok.key
    simp [h', hx, s1]
    refine CallB.p (f_ref15_Long x hok) ?_
    cases e : longP x with
    | true => simp
    | false =>
      have hnx : ∀ p ∈ l.take (j + 1), longP p = false := by
        rw [hta]; intro p hp
        rcases List.mem_append.1 hp with hp | hp
        · exact hno p hp
        · have : p = x := by simpa using hp
          subst this; exact e
      simp
      refine AW_wloopW (fun q : Nat × Int => [(0, .sl 39 (l.map patchV) .view), (3, .int .i64 q.2), (4, .int .i64 j), (5, .int .i64 q.1)]) (fun _ => []) (fun q => q.1 ≤ x.ops.length) (fun q => x.ops.length - q.1) (0, m) (Nat.zero_le _) (Weak.of_eq (by simp) (by simp)) ?_
      rintro ⟨k, m⟩ hk
      simp only at hk
      rcases Nat.lt_or_ge k x.ops.length with h'' | h''
      · have hk2 := i64_succ k (by have := hok.olen; omega)
        obtain ⟨o, ho, htb, hom⟩ := at_k h''
        have hoo := hok.ops o hom
        have s3 := pop_shape hoo.key
        have s4 := id_shape hoo.key
        have hol := hoo.old
        have hnl := hoo.new
        have hpo : V.agg [.int .i64 o.kind, .str o.path, .str o.dest, .int .i64 o.at_, .sl 1 (o.old.map strV) .view, .sl 1 (o.new.map strV) .view, idV o.key, .int .i64 o.depth] = popV o := rfl
        simp [h', hx, h'', ho, patchV, s2, popV, s4]
        refine AW_wloopW (fun q : Nat × Int => [(0, .sl 39 (l.map patchV) .view), (3, .int .i64 q.2), (4, .int .i64 j), (5, .int .i64 k), (6, .ptr 0 []), (7, .int .i64 q.1)]) (fun _ => [.cell (popV o)]) (fun q => q.1 ≤ o.old.length) (fun q => o.old.length - q.1) (0, IntKind.i64.wrap (IntKind.i64.wrap (IntKind.i64.wrap (m + 100) + o.path.length) + o.dest.length)) (Nat.zero_le _) (Weak.of_eq (by simp) (by simp [popV])) ?_
        rintro ⟨a, m⟩ ha
        simp only at ha
        rcases Nat.lt_or_ge a o.old.length with g' | g'
        · have hk3 := i64_succ a (by omega)
          obtain ⟨y, hy, _, hym⟩ := at_k g'
          simp [popV, g', hy, strV, hk3]
          exact ⟨a + 1, by omega, by omega, IntKind.i64.wrap (IntKind.i64.wrap (m + 10) + y.length), Weak.of_eq (by simp) (by simp)⟩
        · have : a = o.old.length := by omega
          subst this
          simp [popV]
          refine AW_wloopW (fun q : Nat × Int => [(0, .sl 39 (l.map patchV) .view), (3, .int .i64 q.2), (4, .int .i64 j), (5, .int .i64 k), (6, .ptr 0 []), (8, .int .i64 q.1)]) (fun _ => [.cell (popV o)]) (fun q => q.1 ≤ o.new.length) (fun q => o.new.length - q.1) (0, m) (Nat.zero_le _) (Weak.of_eq (by simp) (by simp [popV])) ?_
          rintro ⟨b, m⟩ hb
          simp only at hb
          rcases Nat.lt_or_ge b o.new.length with g'' | g''
          · have hk3 := i64_succ b (by omega)
            obtain ⟨y, hy, _, hym⟩ := at_k g''
            simp [popV, g'', hy, strV, hk3]
            exact ⟨b + 1, by omega, by omega, IntKind.i64.wrap (IntKind.i64.wrap (m + 10) + y.length), Weak.of_eq (by simp) (by simp)⟩
          · have : b = o.new.length := by omega
            subst this
            simp [popV, hk2]
            exact ⟨k + 1, by omega, by omega, m, Weak.tidy [0, 3, 4, 5] 0 (Nat.le_refl _) (by simp) rfl (by simp) (by simp)⟩
      · have : k = x.ops.length := by omega
        subst this
        simp [h', hx, patchV, s2, hk1]
        exact ⟨j + 1, ⟨by omega, hnx⟩, by omega, m, Weak.of_eq (by simp) (by simp)⟩
  · have : j = l.length := by omega
    subst this
    rw [List.take_length] at hno
    simp
    exact fun hle _ => ⟨by omega, hno⟩
end Go.Abs
end

section
namespace Go.Abs
open Go
set_option maxRecDepth 20000

theorem wH_two (s : Bs) : wH [.dead, .dead] 0 1 s = [.cell (.agg [.sl 1 (bytesV s) (.row 1)]), .row s.length 1] := rfl

set_option maxHeartbeats 1000000 in
theorem f_Encode_nil : TCp Pg n_bundle_Encode [.sl 39 [] .view] (.tup [.str [81, 67, 49, 0], .int .i64 0]) := by
  refine TCp.bodyT k_bundle_Encode hP rfl rfl rfl ?_
  simp [c_bundle_Encode, r_bundle_Encode]
  have hl : ([81, 67, 49] : Bs).length = 3 := rfl
  generalize hsig : ([81, 67, 49] : Bs) = S at *
  refine AW_wloopW (fun j : Nat => [(0, .sl 39 [] .view), (4, .ptr 0 []), (16, .int .i64 j)]) (fun j => [.cell (.agg [.sl 1 (bytesV (S.take j)) (.row 1)]), .row (S.take j).length 1]) (fun j => j ≤ S.length) (fun j => S.length - j) 0 (Nat.zero_le _)
    ((Weak.openAt 0 [0] 1 (v' := .agg [.sl 1 [] (.row 1)]) rfl rfl rfl).trans (Weak.of_eq (by simp) (by simp [bytesV]))) ?_
  intro j hj
  rcases Nat.lt_or_ge j S.length with h' | h'
  · have hk1 := i64_succ j (by omega)
    have hjj : (j : Int) < 3 := by omega
    obtain ⟨x, hx, hta, hm⟩ := at_k h'
    have hw := f_Writer_Byte (H := [.dead, .dead]) (t := 0) (k := 1) (s := S.take j) (by simp) (by simp) (by simp) x (by simp; omega)
    rw [wH_two, wH_two, ← hta] at hw
    simp [hjj, h', hx, byteV]
    rw [show min j S.length = (S.take j).length by simp]
    refine CallB.w hw ?_
    rintro _ _ rfl
    simp [hk1]
    exact ⟨j + 1, h', by omega, Weak.of_eq (by simp) (by simp)⟩
  · have : j = S.length := by omega
    have hjj : ¬ (j : Int) < 3 := by omega
    rw [this, List.take_length]
    have hn0 := f_Writer_Num (H := [.dead, .dead]) (t := 0) (k := 1) (s := S) (by simp) (by simp) (by simp) 0 (by omega) (by omega)
    have hnum : numB 0 = [0] := by rw [numB]; rfl
    have hs := f_Writer_String (H := [.dead, .dead]) (t := 0) (k := 1) (s := S ++ [0]) (by simp) (by simp) (by simp)
    rw [wH_two, wH_two, hnum] at hn0
    rw [wH_two] at hs
    simp
    refine ⟨by omega, fun _ => ?_⟩
    refine CallB.w hn0 ?_
    rintro _ _ ⟨rfl, rfl⟩
    simp
    refine AW_wloopW (fun _ : Unit => [(4, .ptr 0 []), (28, .sl 39 [] .view), (29, .int .i64 0), (30, .int .i64 0)]) (fun _ => [.cell (.agg [.sl 1 (bytesV (S ++ [0])) (.row 1)]), .row (S ++ [0]).length 1]) (fun _ => True) (fun _ => 0) () trivial (Weak.of_eq (by simp) (by simp)) ?_
    rintro _ _
    simp
    refine CallB.w (by simpa using hs) ?_
    rintro _ _ ⟨rfl, rfl⟩
    simp
    exact ⟨by omega, fun _ => by rw [← hsig]; rfl⟩

theorem f_awake : TCp Pg n_law26_awake [] (.bool true) := by
  refine TCp.body k_law26_awake hP rfl rfl rfl ?_
  simp [c_law26_awake, r_law26_awake]
  refine CallB.p f_Encode_nil ?_
  simp

theorem f_ref26_Same (a b : List Patch) (hl : a.length < 1100000) (ha : ∀ p ∈ a, p.Ok) (hb : ∀ p ∈ b, p.Ok) : TCp Pg n_ref26_Same [.sl 39 (a.map patchV) .view, .sl 39 (b.map patchV) .view] (.bool (eqBy samePatch a b)) := by
  refine TCp.body k_ref26_Same hP rfl (by simp) rfl ?_
  by_cases hlen : a.length = b.length
  · have hli : (a.length : Int) = b.length := by omega
    simp [c_ref26_Same, r_ref26_Same, hlen]
    refine AW_wloop (fun j : Nat => [(0, .sl 39 (a.map patchV) .view), (1, .sl 39 (b.map patchV) .view), (5, .int .i64 j)]) (fun _ => []) (fun j => j ≤ a.length ∧ ∀ i, (h : i < a.length) → (h' : i < b.length) → i < j → samePatch a[i] b[i] = true) (fun j => a.length - j) 0 ⟨Nat.zero_le _, fun i _ _ h => by omega⟩ (Weak.of_eq (by simp) rfl) ?_
    rintro j ⟨hj, hno⟩
    rcases Nat.lt_or_ge j a.length with h' | h'
    · have hk1 := i64_succ j (by omega)
      have h'' : j < b.length := by omega
      have hxm : a[j] ∈ a := List.getElem_mem h'
      have hym : b[j] ∈ b := List.getElem_mem h''
      generalize hx : a[j] = x at hxm
      generalize hy : b[j] = y at hym
      have s1 := patch_shape (ha x hxm).key
      have s2 := patch_shape (hb y hym).key
      have hs1 : (patchV x).shape.size = 39 := by rw [s1]; rfl
      have hs2 : (patchV y).shape.size = 39 := by rw [s2]; rfl
      simp [h', h'', hx, hy, hs1, hs2]
      refine CallQ.of (f_ref15_Same x y (ha x hxm) (hb y hym)) ?_
      cases hp : samePatch x y with
      | true =>
        simp [hk1]
        refine ⟨j + 1, ⟨h', fun i hi hi' hlt => ?_⟩, by omega, by omega⟩
        rcases Nat.lt_or_ge i j with h1 | h1
        · exact hno i hi hi' h1
        · have : i = j := by omega
          subst this
          rw [hx, hy]; exact hp
      | false =>
        simp
        rw [eqBy_false h' h'' (by rw [hx, hy]; exact hp)]
    · have : j = a.length := by omega
      subst this
      simp [hlen]
      rw [eqBy_true hlen fun i h h2 => hno i h h2 h]
  · have hli : ¬ (a.length : Int) = b.length := by omega
    have hne : eqBy samePatch a b = false := by simp [eqBy, hlen]
    simp [c_ref26_Same, r_ref26_Same, hli, hne]

/-- Patches that are as they should be, and few. -/
structure FewOk (l : List Patch) : Prop where
  len : l.length < 100
  ok : ∀ p ∈ l, p.Ok
  deps : ∀ p ∈ l, p.deps.length < 1000
  bytes : ∀ p ∈ l, (bytesB p).length < 100000000

def orderedB (l : List Patch) : Bool := decide (progErr l = 0) && eqBy samePatch l (progSorted l)

theorem named_ok {l : List Patch} (h : FewOk l) : ∀ e ∈ firstE (named l), Entry.Ok e ∧ e.2 ∈ l := by
  intro e he
  obtain ⟨p, hp, rfl⟩ := List.mem_map.1 ((firstE_sub _ (named l) rfl).1 e he)
  exact ⟨⟨sha_length _, h.ok p hp⟩, hp⟩
theorem progOrder_sub {l : List Patch} : ∀ a ∈ progOrder l, a ∈ idsE (firstE (named l)) := by
  intro a ha
  have h1 := (lineB_ok (progNodes l) (dedB (sortB (idsOf (progNodes l)))) []).2 a ha
  rcases h1 with h1 | h1
  · simp at h1
  · have h2 : a ∈ idsOf (progNodes l) := (sortB_perm _).mem_iff.1 (depB_ids.dedB_sub _ h1)
    obtain ⟨n, hn, rfl⟩ := List.mem_map.1 h2
    obtain ⟨b, hb, rfl⟩ := List.mem_map.1 hn
    exact (sortB_perm _).mem_iff.1 (depB_ids.dedB_sub _ hb)
theorem progSorted_mem {l : List Patch} : ∀ p ∈ progSorted l, p ∈ l := by
  intro p hp
  obtain ⟨a, ha, rfl⟩ := List.mem_map.1 hp
  obtain ⟨i, _, _, e, he, h⟩ := lookE_yes (progOrder_sub a ha)
  rw [h]
  obtain ⟨p, hp, rfl⟩ := List.mem_map.1 ((firstE_sub _ (named l) rfl).1 e he)
  exact hp
theorem progSorted_len {l : List Patch} : (progSorted l).length ≤ l.length := by
  unfold progSorted
  rw [List.length_map]
  have h1 := lineB_len (progNodes l) (dedB (sortB (idsOf (progNodes l))))
  have h2 := sorted_len (idsOf (progNodes l))
  have h3 := sorted_len (idsE (firstE (named l)))
  have h4 := (firstE_sub _ (named l) rfl).2
  have h5 : (idsOf (progNodes l)).length = (sortIds l).length := by simp [idsOf, progNodes]
  have h6 : (idsE (firstE (named l))).length = (firstE (named l)).length := by simp [idsE]
  have h7 : (named l).length = l.length := by simp [named]
  unfold sortIds at h5
  unfold progOrder
  omega

theorem f_bundle_Ordered (l : List Patch) (h : FewOk l) : TCp Pg n_bundle_Ordered [.sl 39 (l.map patchV) .view] (.bool (orderedB l)) := by
  refine TCp.body k_bundle_Ordered hP rfl (by simp) rfl ?_
  have hl := h.len
  simp [c_bundle_Ordered, r_bundle_Ordered]
  refine CallB.p (f_bundle_Sorted l hl h.ok h.deps h.bytes) ?_
  by_cases e : progErr l = 0
  · simp [e]
    refine CallG.of (r := .bool (eqBy samePatch l (progSorted l))) (fun _ => ⟨rfl, f_slices_EqualFunc_Patch l (progSorted l) (by omega) samePatch (fun x hx => (h.ok x hx).key) (fun x hx => (h.ok x (progSorted_mem x hx)).key) fun x hx y hy => f_patch_Same x y (h.ok x hx) (h.ok y (progSorted_mem y hy))⟩) ?_
    simp [orderedB, e]
  · simp [e]
    refine CallG.of (r := .bool true) (fun q => by cases q) ?_
    simp [orderedB, e]
end Go.Abs
end
