/-
  The law by the plain law: contract. Rows that rise. The plain law: the program's order of patches is the document's. The plain law: patches in order, each once, are the document's. How long the bytes of a short patch are.
  Conditions: those that stand ahead of each theorem; no more.
-/
import Derived.Test.YtblnejkfaniljaaGreatDoorT31
import Derived.Test.YtblnejkfaniljaaGreatDoorT34

section
namespace Go.Abs
open Go
set_option maxRecDepth 20000

theorem eqBy_self {α : Type} {p : α → α → Bool} (h : ∀ x, p x x = true) (l : List α) : eqBy p l l = true := eqBy_true rfl fun _i _ _ => h _
theorem sameOp_self (o : POp) : sameOp o o = true := by simp [sameOp]
theorem samePatch_self (p : Patch) : samePatch p p = true := by simp [samePatch, sameSig, eqBy_self sameOp_self]

/-- What the plain law says. -/
structure Plain (l : List Patch) : Prop where
  err : progErr l = sortedErr l
  sorted : progErr l = 0 → progSorted l = sortedB l
  again : progErr l = 0 → orderedB (progSorted l) = true

theorem fewOk_sorted {l : List Patch} (h : FewOk l) : FewOk (progSorted l) :=
  ⟨Nat.lt_of_le_of_lt progSorted_len h.len, fun p hp => h.ok p (progSorted_mem p hp), fun p hp => h.deps p (progSorted_mem p hp), fun p hp => h.bytes p (progSorted_mem p hp)⟩

set_option maxHeartbeats 1000000 in
theorem f_law26_BundleSorts (l : List Patch) (hl : l.length < 1100000) (hok : ∀ p ∈ l, p.Ok) (hfew : l.length ≤ 10 → (∀ p ∈ l, longP p = false) → FewOk l) (hpl : FewOk l → Plain l) :
    TCp Pg n_law26_BundleSorts [.sl 39 (l.map patchV) .view] (.bool true) := by
  refine TCp.body k_law26_BundleSorts hP rfl (by simp) rfl ?_
  simp [c_law26_BundleSorts, r_law26_BundleSorts]
  refine CallB.w (f_ref18_Few l hl hok) ?_
  rintro _ _ ⟨b, rfl, rfl, hb⟩
  cases b with
  | false =>
    simp
    refine CallB.p f_awake ?_
    simp
  | true =>
    have hF := hfew (hb rfl).1 (hb rfl).2
    have hP := hpl hF
    have hS := fewOk_sorted hF
    have hl2 := hF.len
    simp
    refine CallB.p (f_bundle_Sorted l hl2 hF.ok hF.deps hF.bytes) ?_
    simp
    refine CallB.p (f_ref26_Sorted l (by omega) hF.ok hF.bytes) ?_
    rw [← hP.err]
    by_cases e : progErr l = 0
    · rw [← hP.sorted e]
      simp [e]
      refine CallG.of (r := .bool true) (fun _ => ⟨rfl, ?_⟩) ?_
      · have := f_ref26_Same (progSorted l) (progSorted l) (by have := progSorted_len (l := l); omega) hS.ok hS.ok
        rw [eqBy_self samePatch_self] at this
        exact this
      simp
      refine CallB.p (f_bundle_Ordered l hF) ?_
      simp
      refine CallG.of (r := .bool (eqBy samePatch l (progSorted l))) (fun _ => ⟨rfl, f_ref26_Same l (progSorted l) hl hok hS.ok⟩) ?_
      have ho : orderedB l = eqBy samePatch l (progSorted l) := by simp [orderedB, e]
      rw [ho]
      simp [TD.fits, V.eq]
      refine CallG.of (r := .bool true) (fun _ => ⟨rfl, ?_⟩) ?_
      · have := f_bundle_Ordered (progSorted l) hS
        rw [hP.again e] at this
        exact this
      simp
      refine CallG.of (r := .bool true) (fun _ => ⟨rfl, f_awake⟩) ?_
      simp
    · simp [e]
      refine CallG.of (r := .bool true) (fun _ => ⟨rfl, f_ref26_Same [] [] (by simp) (by simp) (by simp)⟩) ?_
      simp
      refine CallB.p (f_bundle_Ordered l hF) ?_
      have ho : orderedB l = false := by simp [orderedB, e]
      rw [ho]
      simp
      refine CallG.of (r := .bool true) (fun q => by simp [e] at q) ?_
      simp [TD.fits, V.eq, e]
      refine CallG.of (r := .bool true) (fun q => by cases q) ?_
      simp
      refine CallG.of (r := .bool true) (fun _ => ⟨rfl, f_awake⟩) ?_
      simp
end Go.Abs
end

section
namespace Go.Abs
open Go

abbrev Rise (l : List Bs) : Prop := l.Pairwise fun a b => ltB a b = true
abbrev Sorts (l : List Bs) : Prop := l.Pairwise fun a b => ltB b a = false

theorem sortB_sorts (l : List Bs) : Sorts (sortB l) := by
  have := List.pairwise_mergeSort (le := fun x y => !ltB y x) (l := l) (fun a b c h k => by
    simp only [Bool.not_eq_true'] at *
    exact ltB_ntrans k h) (fun a b => by
    cases e : ltB b a with
    | false => simp
    | true => simp [ltB_asymm e])
  exact this.imp fun h => by simpa using h
theorem dedB_mem : ∀ n (l : List Bs), l.length = n → ∀ a, a ∈ dedB l ↔ a ∈ l
  | 0, l, h, a => by have : l = [] := List.length_eq_zero_iff.1 h; subst this; simp [dedB]
  | n + 1, l, h, a => by
    have hne : l ≠ [] := by rintro rfl; simp at h
    have ih := dedB_mem n l.dropLast (by simp [h]) a
    rw [← List.dropLast_concat_getLast hne, dedB_snoc]
    split
    · rename_i e
      have hm : l.getLast hne ∈ dedB l.dropLast := List.mem_of_getLast? e
      have hm2 := (dedB_mem n l.dropLast (by simp [h]) _).1 hm
      rw [ih]
      simp only [List.mem_append, List.mem_singleton]
      exact ⟨.inl, fun q => q.elim id fun q => q ▸ hm2⟩
    · simp only [List.mem_append, ih, List.mem_singleton]
theorem dedB_rise : ∀ n (l : List Bs), l.length = n → Sorts l → Rise (dedB l) ∧ ∀ z, (dedB l).getLast? = some z → l.getLast? = some z
  | 0, l, h, _ => by have : l = [] := List.length_eq_zero_iff.1 h; subst this; simp [dedB]
  | n + 1, l, h, hs => by
    have hne : l ≠ [] := by rintro rfl; simp at h
    rw [← List.dropLast_concat_getLast hne] at hs ⊢
    obtain ⟨hs1, _, hs2⟩ := List.pairwise_append.1 hs
    obtain ⟨ih, ihl⟩ := dedB_rise n l.dropLast (by simp [h]) hs1
    have hlast := dedB_last l.dropLast (l.getLast hne)
    refine ⟨?_, fun z hz => by rw [hlast] at hz; simp [← hz]⟩
    rw [dedB_snoc]
    split
    · exact ih
    · rename_i e
      refine List.pairwise_append.2 ⟨ih, List.pairwise_singleton _ _, fun a ha b hb => ?_⟩
      have : b = l.getLast hne := by simpa using hb
      subst this
      have ha' := (dedB_mem _ l.dropLast rfl a).1 ha
      have h1 := hs2 a ha' (l.getLast hne) (by simp)
      cases h2 : ltB a (l.getLast hne) with
      | true => rfl
      | false =>
        have heq := ltB_total h2 h1
        exfalso
        -- the last of what has been laid is no less than a, and no more than the next
        have hne2 : dedB l.dropLast ≠ [] := by rintro q; rw [q] at ha; simp at ha
        obtain ⟨z, hz⟩ : ∃ z, (dedB l.dropLast).getLast? = some z := ⟨_, List.getLast?_eq_some_getLast hne2⟩
        have hzl := ihl z hz
        have hzm : z ∈ l.dropLast := List.mem_of_getLast? hzl
        have h3 := hs2 z hzm (l.getLast hne) (by simp)
        have h4 : a = z ∨ ltB z a = false := by
          obtain ⟨ys, hys⟩ := List.getLast?_eq_some_iff.1 hzl
          rw [hys] at hs1 ha'
          rcases List.mem_append.1 ha' with q | q
          · exact .inr ((List.pairwise_append.1 hs1).2.2 a q z (by simp))
          · exact .inl (by simpa using q)
        rw [heq] at h4
        rcases h4 with h4 | h4
        · exact e (by rw [hz, h4])
        · exact e (by rw [hz, ltB_total h3 h4])

theorem rise_sort (l : List Bs) : Rise (dedB (sortB l)) := (dedB_rise _ _ rfl (sortB_sorts l)).1
theorem mem_sort {l : List Bs} {a : Bs} : a ∈ dedB (sortB l) ↔ a ∈ l := by rw [dedB_mem _ _ rfl, (sortB_perm l).mem_iff]
theorem rise_nodup {l : List Bs} (h : Rise l) : l.Nodup := h.imp fun h e => by subst e; rw [ltB_irrefl] at h; cases h

theorem rise_ext : ∀ {a b : List Bs}, Rise a → Rise b → (∀ x, x ∈ a ↔ x ∈ b) → a = b
  | [], [], _, _, _ => rfl
  | [], y :: b, _, _, h => by have := (h y).2 (by simp); simp at this
  | x :: a, [], _, _, h => by have := (h x).1 (by simp); simp at this
  | x :: a, y :: b, ha, hb, h => by
    obtain ⟨ha1, ha2⟩ := List.pairwise_cons.1 ha
    obtain ⟨hb1, hb2⟩ := List.pairwise_cons.1 hb
    have e : x = y := by
      rcases List.mem_cons.1 ((h x).1 (by simp)) with q | q
      · exact q
      · rcases List.mem_cons.1 ((h y).2 (by simp)) with r | r
        · exact r.symm
        · have h1 := hb1 x q
          have h2 := ha1 y r
          rw [ltB_asymm h1] at h2; cases h2
    subst e
    have hnx : ¬ x ∈ a := fun q => by have := ha1 x q; rw [ltB_irrefl] at this; cases this
    have hnx2 : ¬ x ∈ b := fun q => by have := hb1 x q; rw [ltB_irrefl] at this; cases this
    rw [rise_ext ha2 hb2 fun z => ?_]
    constructor
    · intro hz
      rcases List.mem_cons.1 ((h z).1 (by simp [hz])) with q | q
      · subst q; exact (hnx hz).elim
      · exact q
    · intro hz
      rcases List.mem_cons.1 ((h z).2 (by simp [hz])) with q | q
      · subst q; exact (hnx2 hz).elim
      · exact q

theorem rise_of : ∀ {l : List Bs}, risesB l = true → Rise l
  | [], _ => .nil
  | [a], _ => List.pairwise_singleton _ _
  | a :: b :: l, h => by
    simp only [risesB, Bool.and_eq_true] at h
    have ih := rise_of h.2
    refine List.pairwise_cons.2 ⟨fun c hc => ?_, ih⟩
    rcases List.mem_cons.1 hc with rfl | hc
    · exact h.1
    · exact ltB_trans h.1 ((List.pairwise_cons.1 ih).1 c hc)

/-- What of two rising rows' ids counts. -/
theorem mem_merge (p : Bool → Bool → Bool) : ∀ (a b : List Bs), Rise a → Rise b → ∀ x, x ∈ mergeB p a b ↔ (x ∈ a ∨ x ∈ b) ∧ p (decide (x ∈ a)) (decide (x ∈ b)) = true := by
  intro a b
  induction a, b using mergeB.induct with
  | case1 => intro _ _ x; simp [mergeB]
  | case2 y a ih =>
    intro ha hb x
    obtain ⟨ha1, ha2⟩ := List.pairwise_cons.1 ha
    have hny : ¬ y ∈ a := fun q => by have := ha1 y q; rw [ltB_irrefl] at this; cases this
    rw [mergeB, List.mem_append, ih ha2 hb x]
    by_cases e : x = y
    · subst e; simp [hny]
    · simp [e]
  | case3 y b ih =>
    intro ha hb x
    obtain ⟨hb1, hb2⟩ := List.pairwise_cons.1 hb
    have hny : ¬ y ∈ b := fun q => by have := hb1 y q; rw [ltB_irrefl] at this; cases this
    rw [mergeB, List.mem_append, ih ha hb2 x]
    by_cases e : x = y
    · subst e; simp [hny]
    · simp [e]
  | case4 u a y b h ih =>
    intro ha hb x
    obtain ⟨ha1, ha2⟩ := List.pairwise_cons.1 ha
    obtain ⟨hb1, hb2⟩ := List.pairwise_cons.1 hb
    have hny : ¬ u ∈ a := fun q => by have := ha1 u q; rw [ltB_irrefl] at this; cases this
    have hnb : ¬ u ∈ y :: b := by
      intro q
      rcases List.mem_cons.1 q with rfl | q
      · rw [ltB_irrefl] at h; cases h
      · have := ltB_trans h (hb1 u q); rw [ltB_irrefl] at this; cases this
    rw [mergeB, if_pos h, List.mem_append, ih ha2 hb x]
    by_cases e : x = u
    · subst e; simp only [hny, hnb, List.mem_cons, decide_true, decide_false, or_false, false_and]; split <;> simp_all
    · have : (x ∈ u :: a) ↔ x ∈ a := by simp [e]
      simp only [this]
      constructor
      · rintro (q | q)
        · split at q <;> simp at q; exact (e q).elim
        · exact q
      · exact .inr
  | case5 u a y b h h' ih =>
    intro ha hb x
    obtain ⟨ha1, ha2⟩ := List.pairwise_cons.1 ha
    obtain ⟨hb1, hb2⟩ := List.pairwise_cons.1 hb
    have hny : ¬ y ∈ b := fun q => by have := hb1 y q; rw [ltB_irrefl] at this; cases this
    have hnb : ¬ y ∈ u :: a := by
      intro q
      rcases List.mem_cons.1 q with rfl | q
      · rw [ltB_irrefl] at h'; cases h'
      · have := ltB_trans h' (ha1 y q); rw [ltB_irrefl] at this; cases this
    rw [mergeB, if_neg h, if_pos h', List.mem_append, ih ha hb2 x]
    by_cases e : x = y
    · subst e; simp only [hny, hnb, List.mem_cons, true_or, decide_true, decide_false, or_true, false_or, false_and]; split <;> simp_all
    · have : (x ∈ y :: b) ↔ x ∈ b := by simp [e]
      simp only [this]
      constructor
      · rintro (q | q)
        · split at q <;> simp at q; exact (e q).elim
        · exact q
      · exact .inr
  | case6 u a y b h h' ih =>
    intro ha hb x
    have e0 : u = y := ltB_total (by simpa using h) (by simpa using h')
    subst e0
    obtain ⟨ha1, ha2⟩ := List.pairwise_cons.1 ha
    obtain ⟨hb1, hb2⟩ := List.pairwise_cons.1 hb
    have hny : ¬ u ∈ a := fun q => by have := ha1 u q; rw [ltB_irrefl] at this; cases this
    have hnb : ¬ u ∈ b := fun q => by have := hb1 u q; rw [ltB_irrefl] at this; cases this
    rw [mergeB, if_neg h, if_neg h', List.mem_append, ih ha2 hb2 x]
    by_cases e : x = u
    · subst e; simp only [hny, hnb, List.mem_cons, true_or, decide_true, or_false, false_and, true_and]; split <;> simp_all
    · have h1 : (x ∈ u :: a) ↔ x ∈ a := by simp [e]
      have h2 : (x ∈ u :: b) ↔ x ∈ b := by simp [e]
      simp only [h1, h2]
      constructor
      · rintro (q | q)
        · split at q <;> simp at q; exact (e q).elim
        · exact q
      · exact .inr
end Go.Abs
end

section
namespace Go.Abs
open Go

theorem mem_puts {l : List Bs} {a x : Bs} : x ∈ putsB l a ↔ x = a ∨ x ∈ l := by
  unfold putsB
  split
  · rename_i h
    have h : a ∈ l := by simpa using h
    exact ⟨.inr, fun q => q.elim (fun q => q ▸ h) id⟩
  · exact ins_mem a l x
theorem mem_foldPuts : ∀ (l : List Node) (o : List Bs) (a : Bs), a ∈ l.foldl (fun o n => putsB o n.1) o ↔ a ∈ o ∨ a ∈ idsOf l
  | [], o, a => by simp [idsOf]
  | n :: l, o, a => by
    rw [List.foldl_cons, mem_foldPuts l, mem_puts]
    simp only [idsOf, List.map_cons, List.mem_cons]
    constructor
    · rintro ((h | h) | h)
      · exact .inr (.inl h)
      · exact .inl h
      · exact .inr (.inr h)
    · rintro (h | h | h)
      · exact .inl (.inr h)
      · exact .inl (.inl h)
      · exact .inr h
theorem mem_idsB (l : List Node) (a : Bs) : a ∈ idsB l ↔ a ∈ idsOf l := by
  unfold idsB; rw [mem_foldPuts]; simp
theorem idsOf_nodes (l : List Entry) : idsOf (nodesB l) = idsE l := by simp [idsOf, nodesB, idsE]
theorem one_first (l : List Entry) : oneB l = firstE l := by
  unfold oneB firstE
  congr 1
  funext o e
  unfold oneStep
  have : ((idsB (nodesB o)).contains e.1 = true) ↔ e.1 ∈ idsE o := by rw [List.contains_iff_mem, mem_idsB, idsOf_nodes]
  by_cases h : e.1 ∈ idsE o
  · rw [if_pos (this.2 h), if_pos h]
  · rw [if_neg (fun q => h (this.1 q)), if_neg h]

theorem firstE_nodup : ∀ n (l : List Entry), l.length = n → (idsE (firstE l)).Nodup
  | 0, l, h => by have : l = [] := List.length_eq_zero_iff.1 h; subst this; simp [firstE, idsE]
  | n + 1, l, h => by
    have hne : l ≠ [] := by rintro rfl; simp at h
    have ih := firstE_nodup n l.dropLast (by simp [h])
    rw [← List.dropLast_concat_getLast hne, firstE_snoc]
    split
    · exact ih
    · rename_i e
      have : idsE (firstE l.dropLast ++ [l.getLast hne]) = idsE (firstE l.dropLast) ++ [(l.getLast hne).1] := by simp [idsE]
      rw [this, List.nodup_append]
      exact ⟨ih, by simp, fun a ha b hb q => e (by simp at hb; rw [← hb, ← q]; exact ha)⟩
theorem firstE_self : ∀ n (l : List Entry), l.length = n → (idsE l).Nodup → firstE l = l
  | 0, l, h, _ => by have : l = [] := List.length_eq_zero_iff.1 h; subst this; simp [firstE]
  | n + 1, l, h, hn => by
    have hne : l ≠ [] := by rintro rfl; simp at h
    rw [← List.dropLast_concat_getLast hne] at hn ⊢
    have : idsE (l.dropLast ++ [l.getLast hne]) = idsE l.dropLast ++ [(l.getLast hne).1] := by simp [idsE]
    rw [this, List.nodup_append] at hn
    have ih := firstE_self n l.dropLast (by simp [h]) hn.1
    rw [firstE_snoc, ih, if_neg]
    exact fun q => hn.2.2 _ q _ (by simp) rfl

/-- The least id that can be laid. -/
theorem find_least {p : Bs → Bool} : ∀ {l : List Bs} {a : Bs}, Rise l → l.find? p = some a → ∀ b ∈ l, p b = true → ltB b a = false
  | x :: l, a, hr, h, b, hb, hp => by
    obtain ⟨h1, h2⟩ := List.pairwise_cons.1 hr
    rw [List.find?_cons] at h
    split at h
    · cases h
      rcases List.mem_cons.1 hb with rfl | hb
      · exact ltB_irrefl _
      · exact ltB_asymm (h1 b hb)
    · rename_i hx
      rcases List.mem_cons.1 hb with rfl | hb
      · rw [hp] at hx; simp at hx
      · exact find_least h2 h b hb hp

theorem pick_least (out : List Bs) : ∀ (l : List Node) (b : Option Bs), (∀ a, l.foldl (stepB out) b = some a → (∀ x, b = some x → ltB x a = false) ∧ ∀ n ∈ l, readyB out n = true → ltB n.1 a = false) ∧
    (l.foldl (stepB out) b = none → b = none ∧ ∀ n ∈ l, readyB out n = false)
  | [], b => ⟨fun a h => ⟨fun x hx => by rw [List.foldl_nil] at h; rw [h] at hx; cases hx; exact ltB_irrefl _, by simp⟩, fun h => ⟨h, by simp⟩⟩
  | n :: l, b => by
    obtain ⟨ih1, ih2⟩ := pick_least out l (stepB out b n)
    rw [List.foldl_cons]
    refine ⟨fun a h => ?_, fun h => ?_⟩
    · obtain ⟨h1, h2⟩ := ih1 a h
      cases hr : readyB out n with
      | false =>
        rw [step_no hr] at h1
        refine ⟨h1, fun m hm hrm => ?_⟩
        rcases List.mem_cons.1 hm with rfl | hm
        · rw [hr] at hrm; cases hrm
        · exact h2 m hm hrm
      | true =>
        cases b with
        | none =>
          rw [step_new hr] at h1
          refine ⟨fun x hx => (by cases hx), fun m hm hrm => ?_⟩
          rcases List.mem_cons.1 hm with rfl | hm
          · exact h1 _ rfl
          · exact h2 m hm hrm
        | some y =>
          rw [step_old hr] at h1
          cases hlt : ltB n.1 y with
          | true =>
            rw [if_pos hlt] at h1
            have h3 := h1 _ rfl
            refine ⟨fun x hx => ?_, fun m hm hrm => ?_⟩
            · cases hx
              exact ltB_ntrans (ltB_asymm hlt) h3
            · rcases List.mem_cons.1 hm with rfl | hm
              · exact h3
              · exact h2 m hm hrm
          | false =>
            rw [if_neg (by rw [hlt]; simp)] at h1
            have h3 := h1 _ rfl
            refine ⟨fun x hx => (by cases hx; exact h3), fun m hm hrm => ?_⟩
            rcases List.mem_cons.1 hm with rfl | hm
            · exact ltB_ntrans hlt h3
            · exact h2 m hm hrm
    · obtain ⟨h1, h2⟩ := ih2 h
      cases hr : readyB out n with
      | false =>
        rw [step_no hr] at h1
        refine ⟨h1, fun m hm => ?_⟩
        rcases List.mem_cons.1 hm with rfl | hm
        · exact hr
        · exact h2 m hm
      | true =>
        exfalso
        cases b with
        | none => rw [step_new hr] at h1; cases h1
        | some y =>
          rw [step_old hr] at h1
          split at h1 <;> cases h1

theorem pick_ready (out : List Bs) : ∀ (l : List Node) (b : Option Bs) (a : Bs), l.foldl (stepB out) b = some a → b = some a ∨ ∃ n ∈ l, n.1 = a ∧ readyB out n = true
  | [], b, a, h => .inl h
  | n :: l, b, a, h => by
    rw [List.foldl_cons] at h
    rcases pick_ready out l _ a h with h | ⟨m, hm, h1, h2⟩
    · cases hr : readyB out n with
      | false => rw [step_no hr] at h; exact .inl h
      | true =>
        cases b with
        | none => rw [step_new hr] at h; cases h; exact .inr ⟨n, by simp, rfl, hr⟩
        | some y =>
          rw [step_old hr] at h
          split at h
          · cases h; exact .inr ⟨n, by simp, rfl, hr⟩
          · exact .inl h
    · exact .inr ⟨m, by simp [hm], h1, h2⟩

/-- Where the two say the same of what can be laid, they lay the same. -/
theorem pick_find {l : List Node} {P : List Node} {S : List Bs} (hS : Rise S) (hids : ∀ a, a ∈ S ↔ a ∈ idsOf l) (hr : ∀ out, ∀ n ∈ l, readyB out n = readyL P out n.1) (out : List Bs) : pickB l out = S.find? (readyL P out) := by
  have h0 := pick_least out l none
  cases hp : pickB l out with
  | none =>
    obtain ⟨_, h2⟩ := h0.2 hp
    symm
    refine List.find?_eq_none.2 fun a ha => ?_
    obtain ⟨n, hn, rfl⟩ := List.mem_map.1 ((hids a).1 ha)
    rw [← hr out n hn, h2 n hn]; simp
  | some a =>
    rcases pick_ready out l none a hp with h | ⟨n, hn, rfl, hrn⟩
    · cases h
    have hnS : n.1 ∈ S := (hids n.1).2 (List.mem_map_of_mem hn)
    have hrn2 := hr out n hn
    rw [hrn] at hrn2
    cases hf : S.find? (readyL P out) with
    | none => have := List.find?_eq_none.1 hf n.1 hnS; rw [← hrn2] at this; simp at this
    | some b =>
      have h1 := find_least hS hf n.1 hnS hrn2.symm
      have hbS := List.mem_of_find?_eq_some hf
      have hbr := List.find?_some hf
      obtain ⟨m, hm, rfl⟩ := List.mem_map.1 ((hids b).1 hbS)
      rw [← hr out m hm] at hbr
      have h2 := (h0.1 _ hp).2 m hm hbr
      rw [ltB_total h1 h2]

theorem orderN_line {l : List Node} {P : List Node} {S : List Bs} (hp : ∀ out, pickB l out = S.find? (readyL P out)) : ∀ k, lineB P S (orderN l k) = lineB P S [] ∧ ((orderN l k).length = k ∨ S.find? (readyL P (orderN l k)) = none) ∧ (orderN l k).length + (S.filter fun x => !(orderN l k).contains x).length ≤ S.length
  | 0 => ⟨rfl, .inl rfl, by simpa [orderN] using List.length_filter_le _ S⟩
  | k + 1 => by
    obtain ⟨h1, h2, h3⟩ := orderN_line hp k
    rw [orderN, hp]
    cases hf : S.find? (readyL P (orderN l k)) with
    | none =>
      refine ⟨h1, .inr ?_, h3⟩
      exact hf
    | some a =>
      have h2 : (orderN l k).length = k := by
        rcases h2 with h2 | h2
        · exact h2
        · rw [h2] at hf; cases hf
      have hlt := left_lt (List.mem_of_find?_eq_some hf) (ready_no (List.find?_some hf))
      refine ⟨by dsimp only; rw [← h1, lineB_some hf], .inl (by simp [h2]), ?_⟩
      simp only [List.length_append, List.length_cons, List.length_nil]
      omega

theorem order_line {l : List Node} {P : List Node} {S : List Bs} (hlen : l.length = S.length) (hp : ∀ out, pickB l out = S.find? (readyL P out)) : orderB l = lineB P S [] := by
  obtain ⟨h1, h2, h3⟩ := orderN_line hp l.length
  have hf : S.find? (readyL P (orderN l l.length)) = none := by
    rcases h2 with h2 | h2
    · have h4 : (S.filter fun x => !(orderN l l.length).contains x).length = 0 := by omega
      have h5 := List.length_eq_zero_iff.1 h4
      refine List.find?_eq_none.2 fun a ha => ?_
      have h6 : a ∈ orderN l l.length := by
        have := List.filter_eq_nil_iff.1 h5 a ha
        simpa using this
      simp [readyL, h6]
    · exact h2
  rw [← h1, lineB_none hf]
  rfl
end Go.Abs
end

section
namespace Go.Abs
open Go

theorem namedErr_zero : ∀ {l : List Patch}, namedErr l = 0 → ∀ p ∈ l, bytesErr p = 0
  | p :: l, h, q, hq => by
    rw [namedErr] at h
    split at h
    · rename_i e
      rcases List.mem_cons.1 hq with rfl | hq
      · exact e
      · exact namedErr_zero h q hq
    · rename_i e; exact (e h).elim
theorem bytes_rise {p : Patch} (h : bytesErr p = 0) : Rise p.deps := by
  have h1 : patchRight p = 0 := by
    unfold bytesErr at h
    split at h
    · assumption
    · exact h
  refine rise_of ?_
  unfold patchRight at h1
  split at h1
  · cases h1
  · split at h1
    · cases h1
    · rename_i h2; simpa using h2
theorem findB_of {l : List Entry} {a : Bs} (h : a ∈ idsE l) : ∃ e ∈ l, e.1 = a ∧ findB l a = e.2 := by
  cases hf : l.find? (fun e => decide (e.1 = a)) with
  | none =>
    obtain ⟨e, he, e1⟩ := List.mem_map.1 h
    have := List.find?_eq_none.1 hf e he
    simp [e1] at this
  | some e =>
    have h1 := List.find?_some hf
    exact ⟨e, List.mem_of_find?_eq_some hf, by simpa using h1, by rw [findB, hf]⟩
theorem findB_self {l : List Entry} (hn : (idsE l).Nodup) {e : Entry} (he : e ∈ l) : findB l e.1 = e.2 := by
  obtain ⟨e', he', h1, h2⟩ := findB_of (List.mem_map_of_mem (f := fun e : Entry => e.1) he)
  rw [h2]
  congr 1
  have : ∀ {l : List Entry}, (idsE l).Nodup → e ∈ l → e' ∈ l → e'.1 = e.1 → e' = e := by
    intro l
    induction l with
    | nil => intro _ h; simp at h
    | cons x l ih =>
      intro hn h h' e1
      have hn : ((x.1 :: idsE l)).Nodup := hn
      obtain ⟨hx, hl⟩ := List.nodup_cons.1 hn
      rcases List.mem_cons.1 h with q1 | q1 <;> rcases List.mem_cons.1 h' with q2 | q2
      · rw [q1, q2]
      · exact (hx (List.mem_map.2 ⟨e', q2, by rw [e1, q1]⟩)).elim
      · exact (hx (List.mem_map.2 ⟨e, q1, by rw [← e1, q2]⟩)).elim
      · exact ih hl q1 q2 e1
  exact this hn he he' h1

theorem sort_nodup {l : List Bs} (h : l.Nodup) : dedB (sortB l) = sortB l := by
  have h1 : Rise (sortB l) := by
    have hs := sortB_sorts l
    have hn : (sortB l).Nodup := (sortB_perm l).nodup_iff.2 h
    have := hs.and hn
    exact this.imp fun ⟨h1, h2⟩ => by
      cases e : ltB _ _ with
      | true => rfl
      | false => exact (h2 (ltB_total e h1)).elim
  exact rise_ext (rise_sort l) h1 fun x => by rw [mem_sort, (sortB_perm l).mem_iff]
theorem sort_rise {l : List Bs} (h : Rise l) : dedB (sortB l) = l := rise_ext (rise_sort l) h fun _x => mem_sort

theorem lineB_more (l : List Node) (ids out : List Bs) (hn : out.Nodup) : (lineB l ids out).Nodup ∧ (lineB l ids out).length + (ids.filter fun x => !(lineB l ids out).contains x).length ≤ out.length + (ids.filter fun x => !out.contains x).length := by
  induction out using lineB.induct l ids with
  | case1 out a h ih =>
    rw [lineB_some h]
    have hno := ready_no (List.find?_some h)
    have hlt := left_lt (List.mem_of_find?_eq_some h) hno
    obtain ⟨h1, h2⟩ := ih (List.nodup_append.2 ⟨hn, by simp, fun x hx y hy e => hno (by simp at hy; rw [← hy, ← e]; exact hx)⟩)
    refine ⟨h1, ?_⟩
    rw [List.length_append] at h2
    simp only [List.length_cons, List.length_nil] at h2
    omega
  | case2 out h =>
    rw [lineB_none h]
    exact ⟨hn, Nat.le_refl _⟩

section
variable {l : List Patch}

theorem entry_of {e : Entry} (h : e ∈ firstE (named l)) : e.2 ∈ l ∧ e.1 = patchId e.2 := by
  obtain ⟨p, hp, rfl⟩ := List.mem_map.1 ((firstE_sub _ (named l) rfl).1 e h)
  exact ⟨hp, rfl⟩
theorem mem_sortIds {a : Bs} : a ∈ sortIds l ↔ a ∈ idsE (firstE (named l)) := mem_sort
theorem rise_sortIds : Rise (sortIds l) := rise_sort _
theorem idsOf_prog : idsOf (progNodes l) = sortIds l := by
  simp only [idsOf, progNodes, List.map_map]
  conv => rhs; rw [← List.map_id (sortIds l)]
  exact List.map_congr_left fun _ _ => rfl
theorem prog_order : progOrder l = lineB (progNodes l) (sortIds l) [] := by
  unfold progOrder
  rw [idsOf_prog, sort_rise rise_sortIds]

theorem depOf_prog (h0 : namedErr l = 0) {a : Bs} (ha : a ∈ sortIds l) (d : Bs) : d ∈ depOf (progNodes l) a ↔ d ∈ (findB (firstE (named l)) a).deps ∧ d ∈ sortIds l := by
  have hf : (progNodes l).find? (fun n => decide (a = n.1)) = some (a, mergeB (fun x y => x && y) (findB (firstE (named l)) a).deps (sortIds l)) := by
    unfold progNodes
    have : ∀ S : List Bs, a ∈ S → (S.map fun a => (a, mergeB (fun x y => x && y) (findB (firstE (named l)) a).deps (sortIds l))).find? (fun n => decide (a = n.1)) = some (a, mergeB (fun x y => x && y) (findB (firstE (named l)) a).deps (sortIds l)) := by
      intro S
      induction S with
      | nil => intro h; simp at h
      | cons x S ih =>
        intro h
        rw [List.map_cons, List.find?_cons]
        by_cases e : a = x
        · subst e; simp
        · simp only [e, decide_false]
          exact ih ((List.mem_cons.1 h).resolve_left e)
    exact this _ ha
  have hrise : Rise (findB (firstE (named l)) a).deps := by
    obtain ⟨e, he, _, h2⟩ := findB_of (mem_sortIds.1 ha)
    rw [h2]
    exact bytes_rise (namedErr_zero h0 _ (entry_of he).1)
  rw [depOf, hf]
  show d ∈ depB _ ↔ _
  unfold depB
  rw [mem_sort, mem_merge _ _ _ hrise rise_sortIds]
  simp only [Bool.and_eq_true, decide_eq_true_eq]
  exact ⟨fun h => h.2, fun h => ⟨.inl h.1, h⟩⟩

theorem ready_same (h0 : namedErr l = 0) (out : List Bs) : ∀ n ∈ sortNodes l, readyB out n = readyL (progNodes l) out n.1 := by
  intro n hn
  unfold sortNodes nodesOf at hn
  rw [one_first] at hn
  obtain ⟨e, he, rfl⟩ := List.mem_map.1 hn
  have hids : e.1 ∈ idsE (firstE (named l)) := List.mem_map_of_mem he
  have hS := mem_sortIds.2 hids
  have hfe := findB_self (firstE_nodup _ (named l) rfl) he
  have hd := depOf_prog h0 hS
  rw [hfe] at hd
  unfold readyB readyL
  congr 1
  rw [Bool.eq_iff_iff]
  simp only [decide_eq_true_eq, Bool.not_eq_true', List.any_eq_false]
  rw [List.length_eq_zero_iff, List.filter_eq_nil_iff]
  constructor
  · intro h d hdd
    obtain ⟨h1, h2⟩ := (hd d).1 hdd
    have hI : d ∈ idsB (nodesB (firstE (named l))) := by rw [mem_idsB, idsOf_nodes]; exact mem_sortIds.1 h2
    have := h d (List.mem_filter.2 ⟨h1, by simpa using hI⟩)
    simpa using this
  · intro h d hdd
    obtain ⟨h1, h2⟩ := List.mem_filter.1 hdd
    have hI : d ∈ idsB (nodesB (firstE (named l))) := by simpa using h2
    rw [mem_idsB, idsOf_nodes] at hI
    have := h d ((hd d).2 ⟨h1, mem_sortIds.2 hI⟩)
    simpa using this

theorem sortNodes_len : (sortNodes l).length = (sortIds l).length := by
  unfold sortNodes nodesOf sortIds
  rw [one_first, List.length_map, sort_nodup (firstE_nodup _ (named l) rfl), sortB_length]
  simp [idsE]
theorem order_same (h0 : namedErr l = 0) : orderB (sortNodes l) = lineB (progNodes l) (sortIds l) [] := by
  refine order_line sortNodes_len fun out => pick_find rise_sortIds (fun a => ?_) (fun out => ready_same h0 out) out
  have : idsOf (sortNodes l) = idsE (firstE (named l)) := by
    unfold sortNodes nodesOf idsOf
    rw [one_first, List.map_map]
    rfl
  rw [this, mem_sortIds]

theorem miss_none : missB (progNodes l) = [] := by
  refine List.eq_nil_iff_forall_not_mem.2 fun x hx => ?_
  unfold missB at hx
  rw [mem_merge _ _ _ (rise_sort _) (rise_sort _)] at hx
  obtain ⟨_, hx⟩ := hx
  simp only [mem_sort, Bool.and_eq_true, decide_eq_true_eq, Bool.not_eq_true', decide_eq_false_iff_not] at hx
  obtain ⟨h1, h2⟩ := hx
  rw [idsOf_prog] at h2
  obtain ⟨n, hn, hx⟩ := List.mem_flatMap.1 h1
  obtain ⟨a, ha, rfl⟩ := List.mem_map.1 hn
  have hm : ∀ (a b : List Bs) x, x ∈ mergeB (fun x y => x && y) a b → x ∈ b := by
    intro a b
    induction a, b using mergeB.induct with
    | case1 => simp [mergeB]
    | case2 x a ih => rw [mergeB]; simpa using ih
    | case3 y b ih => rw [mergeB]; intro z hz; have := ih z (by simpa using hz); simp [this]
    | case4 x a y b h ih => rw [mergeB, if_pos h]; simpa using ih
    | case5 x a y b h h' ih => rw [mergeB, if_neg h, if_pos h']; intro z hz; have := ih z (by simpa using hz); simp [this]
    | case6 x a y b h h' ih =>
      rw [mergeB, if_neg h, if_neg h']
      intro z hz
      have e0 : x = y := ltB_total (by simpa using h) (by simpa using h')
      have hz : z = x ∨ z ∈ mergeB (fun x y => x && y) a b := by simpa using hz
      rcases hz with rfl | hz
      · simp [e0]
      · simp [ih z hz]
  exact h2 (hm _ _ _ hx)
theorem new_err : newErr (progNodes l) = if (lineB (progNodes l) (sortIds l) []).length < (sortIds l).length then 17 else 0 := by
  unfold newErr
  rw [idsOf_prog, sort_rise rise_sortIds, miss_none, if_neg (by simpa using rise_nodup rise_sortIds)]
  rfl

theorem plain_err : progErr l = sortedErr l := by
  unfold progErr sortedErr
  split
  · rename_i h0
    rw [new_err, order_same h0, sortNodes_len]
  · rfl

theorem plain_again (h : progErr l = 0) : progErr (progSorted l) = 0 ∧ progSorted (progSorted l) = progSorted l := by
  have h0 : namedErr l = 0 := by
    unfold progErr at h
    split at h
    · assumption
    · exact h
  have hne : newErr (progNodes l) = 0 := by unfold progErr at h; rw [if_pos h0] at h; exact h
  have hlen : ¬ (lineB (progNodes l) (sortIds l) []).length < (sortIds l).length := by
    rw [new_err] at hne
    intro q; rw [if_pos q] at hne; cases hne
  obtain ⟨hnd, hcount⟩ := lineB_more (progNodes l) (sortIds l) [] (by simp)
  have hsub := (lineB_ok (progNodes l) (sortIds l) []).2
  have hfl := List.length_filter_le (fun x => !([] : List Bs).contains x) (sortIds l)
  simp only [List.length_nil] at hcount
  have hall : ∀ a ∈ sortIds l, a ∈ lineB (progNodes l) (sortIds l) [] := by
    have h4 : ((sortIds l).filter fun x => !(lineB (progNodes l) (sortIds l) []).contains x).length = 0 := by omega
    intro a ha
    have := List.filter_eq_nil_iff.1 (List.length_eq_zero_iff.1 h4) a ha
    simpa using this
  have hps : progSorted l = (lineB (progNodes l) (sortIds l) []).map (findB (firstE (named l))) := by unfold progSorted; rw [prog_order]
  have hsub2 : ∀ a ∈ lineB (progNodes l) (sortIds l) [], a ∈ sortIds l := fun a ha => by
    rcases hsub a ha with q | q
    · simp at q
    · exact q
  have hO : lineB (progNodes l) (sortIds l) [] = lineB (progNodes l) (sortIds l) [] := rfl
  generalize hOO : lineB (progNodes l) (sortIds l) [] = O at *
  have hid : ∀ a ∈ O, patchId (findB (firstE (named l)) a) = a := fun a ha => by
    obtain ⟨e, he, h1, h2⟩ := findB_of (mem_sortIds.1 (hsub2 a ha))
    rw [h2, ← (entry_of he).2, h1]
  have hnm : named (progSorted l) = O.map fun a => (a, findB (firstE (named l)) a) := by
    rw [hps]
    have hdef : ∀ L : List Patch, named L = L.map fun p => (patchId p, p) := fun _ => rfl
    rw [hdef (O.map _), List.map_map]
    exact List.map_congr_left fun a ha => by simp [hid a ha]
  have hidsE : idsE (named (progSorted l)) = O := by
    rw [hnm]; simp only [idsE, List.map_map]
    conv => rhs; rw [← List.map_id O]
    exact List.map_congr_left fun _ _ => rfl
  have hfE : firstE (named (progSorted l)) = named (progSorted l) := firstE_self _ _ rfl (by rw [hidsE]; exact hnd)
  have hSI : sortIds (progSorted l) = sortIds l := by
    unfold sortIds
    rw [hfE, hidsE]
    exact rise_ext (rise_sort _) (rise_sort _) fun x => by
      rw [mem_sort]
      exact ⟨fun h => hsub2 x h, fun h => hall x h⟩
  have hfind : ∀ a ∈ sortIds l, findB (firstE (named (progSorted l))) a = findB (firstE (named l)) a := fun a ha => by
    have hm : (a, findB (firstE (named l)) a) ∈ named (progSorted l) := by rw [hnm]; exact List.mem_map_of_mem (hall a ha)
    have := findB_self (l := named (progSorted l)) (by rw [hidsE]; exact hnd) hm
    rw [hfE]; exact this
  have hPN : progNodes (progSorted l) = progNodes l := by
    unfold progNodes
    rw [hSI]
    exact List.map_congr_left fun a ha => by rw [hfind a ha]
  have hn0 : namedErr (progSorted l) = 0 := namedErr_ok fun p hp => namedErr_zero h0 p (progSorted_mem p hp)
  refine ⟨?_, ?_⟩
  · unfold progErr
    rw [if_pos hn0, hPN]; exact hne
  · have h1 : progOrder (progSorted l) = O := by rw [prog_order, hPN, hSI, hOO]
    have h2 : progOrder l = O := by rw [prog_order, hOO]
    show (progOrder (progSorted l)).map _ = (progOrder l).map _
    rw [h1, h2]
    exact List.map_congr_left fun a ha => hfind a (hsub2 a ha)
end

theorem plain (l : List Patch) : Plain l := by
  refine ⟨plain_err, fun h => ?_, fun h => ?_⟩
  · have h0 : namedErr l = 0 := by
      unfold progErr at h
      split at h
      · assumption
      · exact h
    unfold progSorted sortedB
    rw [prog_order, order_same h0, one_first]
  · obtain ⟨h1, h2⟩ := plain_again h
    unfold orderedB
    rw [h1, h2, eqBy_self samePatch_self]
    rfl
end Go.Abs
end

section
namespace Go.Abs
open Go
set_option maxRecDepth 20000

structure Ranged (p : Patch) : Prop where
  leaf : p.sign.leaf < 9223372036854775808
  at_ : ∀ o ∈ p.ops, o.at_ < 9223372036854775808
  depth : ∀ o ∈ p.ops, o.depth < 9223372036854775808

theorem num_len (v : Nat) (h : v < 9223372036854775808) : (numB v).length ≤ 10 := numB_length 9 v (Nat.lt_of_lt_of_le h (by decide))
theorem text_len (s : Bs) (h : s.length < 1100000) : (textB s).length ≤ 10 + s.length := by
  have := num_len s.length (by omega)
  rw [textB, List.length_append]; omega
theorem flat_le {α : Type} {f : α → Bs} {c : Nat} : ∀ {l : List α}, (∀ x ∈ l, (f x).length ≤ c) → (l.flatMap f).length ≤ l.length * c
  | [], _ => by simp
  | x :: l, h => by
    have h1 := h x (by simp)
    have h2 := flat_le (l := l) fun y hy => h y (by simp [hy])
    rw [List.flatMap_cons, List.length_append, List.length_cons, Nat.add_mul]
    omega
theorem flatten_le {c : Nat} : ∀ {l : List Bs}, (∀ x ∈ l, x.length = c) → l.flatten.length = l.length * c
  | [], _ => by simp
  | x :: l, h => by
    have h1 := h x (by simp)
    have h2 := flatten_le (l := l) fun y hy => h y (by simp [hy])
    rw [List.flatten_cons, List.length_append, List.length_cons, Nat.add_mul, h2, h1]
    omega

theorem longP_no {p : Patch} (h : longP p = false) : p.deps.length ≤ 20 ∧ p.note.length ≤ 500 ∧ p.ops.length ≤ 36 ∧ p.sign.shown.length ≤ 20 ∧ p.sign.hidden.length ≤ 20 ∧ p.sign.way.length ≤ 12 ∧ ∀ o ∈ p.ops, longOp o = false := by
  unfold longP at h
  simp only [Bool.or_eq_false_iff, decide_eq_false_iff_not, List.any_eq_false, Bool.not_eq_true] at h
  obtain ⟨⟨⟨⟨⟨⟨h1, h2⟩, h3⟩, h4⟩, h5⟩, h6⟩, h7⟩ := h
  exact ⟨by omega, by omega, by omega, by omega, by omega, by omega, h7⟩
theorem longOp_no {o : POp} (h : longOp o = false) : o.path.length ≤ 300 ∧ o.dest.length ≤ 300 ∧ o.old.length ≤ 40 ∧ o.new.length ≤ 40 ∧ (∀ s ∈ o.old, s.length ≤ 300) ∧ ∀ s ∈ o.new, s.length ≤ 300 := by
  unfold longOp longS at h
  simp only [Bool.or_eq_false_iff, decide_eq_false_iff_not, List.any_cons, List.any_nil, List.any_eq_false, decide_eq_true_eq] at h
  obtain ⟨⟨⟨⟨h1, h2⟩, h3⟩, h4⟩, h5, h6, _⟩ := h
  exact ⟨by omega, by omega, by omega, by omega, fun s hs => by have := h5 s hs; omega, fun s hs => by have := h6 s hs; omega⟩

theorem texts_len {l : List Bs} (h1 : l.length ≤ 40) (h2 : ∀ s ∈ l, s.length ≤ 300) : (textsB l).length ≤ 20000 := by
  have h3 := flat_le (f := textB) (c := 310) fun x hx => by
    have := h2 x hx
    have := text_len x (by omega)
    omega
  have h4 := num_len l.length (by omega)
  rw [textsB, List.length_append]
  have : l.length * 310 ≤ 40 * 310 := Nat.mul_le_mul_right _ h1
  omega
theorem op_len {o : POp} (h : longOp o = false) (hk : o.key.length = 32) (h1 : o.at_ < 9223372036854775808) (h2 : o.depth < 9223372036854775808) : (opB o).length ≤ 100000 := by
  obtain ⟨q1, q2, q3, q4, q5, q6⟩ := longOp_no h
  have t1 := texts_len q3 q5
  have t2 := texts_len q4 q6
  have t3 := text_len o.path (by omega)
  have t4 := text_len o.dest (by omega)
  have t5 := num_len o.at_.toNat (by omega)
  have t6 := num_len o.depth.toNat (by omega)
  have hr : (opRest o).length ≤ 50000 := by
    unfold opRest
    split
    · omega
    · split
      · simp only [List.length_append]; omega
      · split
        · omega
        · split
          · simp only [List.length_append]; omega
          · split
            · omega
            · simp
  unfold opB
  simp only [List.length_append, List.length_cons, List.length_nil]
  omega
theorem bytes_len {p : Patch} (h : longP p = false) (hok : p.Ok) (hr : Ranged p) : (bytesB p).length < 100000000 := by
  obtain ⟨q1, q2, q3, q4, q5, q6, q7⟩ := longP_no h
  have t1 := num_len p.deps.length (by omega)
  have t2 := flatten_le hok.deps.ids
  have t3 := text_len p.note (by omega)
  have t4 := num_len p.ops.length (by omega)
  have t5 := flat_le (f := opB) (c := 100000) fun o ho => op_len (q7 o ho) (hok.ops o ho).key (hr.at_ o ho) (hr.depth o ho)
  have t6 := num_len p.sign.leaf.toNat (by have := hr.leaf; omega)
  have t7 := num_len p.sign.shown.length (by omega)
  have t8 := num_len p.sign.hidden.length (by omega)
  have t9 := num_len p.sign.way.length (by omega)
  have u1 := flatten_le hok.sign.shown.ids
  have u2 := flatten_le hok.sign.hidden.ids
  have u3 := flatten_le hok.sign.way.ids
  have u4 := hok.key
  have m1 : p.ops.length * 100000 ≤ 36 * 100000 := Nat.mul_le_mul_right _ q3
  unfold bytesB bodyB sigB
  simp only [List.length_append]
  omega
theorem few_ok {l : List Patch} (h1 : l.length ≤ 10) (h2 : ∀ p ∈ l, longP p = false) (hok : ∀ p ∈ l, p.Ok) (hr : ∀ p ∈ l, Ranged p) : FewOk l :=
  ⟨by omega, hok, fun p hp => by have := (longP_no (h2 p hp)).1; omega, fun p hp => bytes_len (h2 p hp) (hok p hp) (hr p hp)⟩

/-- THE LAW, of any patches that are as a program holds them. -/
theorem law_holds (l : List Patch) (hl : l.length < 1100000) (hok : ∀ p ∈ l, p.Ok) (hr : ∀ p ∈ l, Ranged p) : TCp Pg n_law26_BundleSorts [.sl 39 (l.map patchV) .view] (.bool true) :=
  f_law26_BundleSorts l hl hok (fun h1 h2 => few_ok h1 h2 hok hr) fun _ => plain l
end Go.Abs
end
