/-
  The library's sort of ids: contract. Ids in order, each once: contracts. Maps whose keys are ids. What the form's reading of an argument says, as an abstract value.
  Conditions: those that stand ahead of each theorem; no more.
-/
import Derived.Deep.Slices
import Derived.ChangeArms
import Derived.OpenShut
import Derived.Test.YtblnejkfaniljaaGreatDoorRows
import Derived.Test.YtblnejkfaniljaaGreatDoorT05
import Derived.Test.YtblnejkfaniljaaGreatDoorT16
import Derived.Test.YtblnejkfaniljaaGreatDoorT30

section
namespace Go.Abs
open Go Go.Sort Go.Lib
open Go.RowKit (Below)
set_option maxRecDepth 20000

theorem b_SortFunc : bodied Pg n_slices_SortFunc_Id = true := by kernel_rfl
theorem b_compare : bodied Pg n_id_compare = true := by kernel_rfl
theorem enters_compare (args : Array Value) (w : World) : (callFunc n_id_compare args).run Pg w = .ok (.enter n_id_compare args) w := by
  obtain ⟨fn, c, h1, h2, h3⟩ := bodied_iff b_compare
  simp [callFunc, h1, h2, h3]
theorem enters_SortFunc (args : Array Value) (w : World) : (callFunc n_slices_SortFunc_Id args).run Pg w = .ok (.enter n_slices_SortFunc_Id args) w := by
  obtain ⟨fn, c, h1, h2, h3⟩ := bodied_iff b_SortFunc
  simp [callFunc, h1, h2, h3]

theorem sort_calls (m : List Id32) (blk cap : Nat) (w : World) (C : Array Value) (e : TypeId) (fr : Nat × Nat) (rest : List Value) (hb : w.heap[blk]? = some (.cells C e fr)) (hu : Unfrozen C fr) (hC : C.toList = m.flatMap encI ++ rest) (hm : m.length < 4611686018427387904) :
    Calls Pg n_slices_SortFunc_Id #[.slice (some ⟨blk, 0, none⟩) m.length cap, .func (.func n_id_compare) #[] #[]] w fun x w' => x = .returned (.tuple #[]) ∧
      ∃ n os, w' = Go.Proofs.sortWorldK encI 32 w blk 0 n (m.mergeSort fun x y => !(Go.Proofs.ltOf cmpI) y x).toArray os := by
  have hsz : C.size = m.length * 32 + rest.length := by
    have : C.toList.length = (m.flatMap encI ++ rest).length := by rw [hC]
    simpa [flat_length encI 32 encI_length] using this
  have hH : HoldsK encI 32 w blk 0 m.toArray := by
    intro j hj
    have hj' : j < m.length * 32 := by simpa using hj
    have hF : (flatK encI 32 m.toArray).toList = m.flatMap encI := flatK_list encI 32 encI_length (by decide) _
    have hc : C[j]? = some ((flatK encI 32 m.toArray)[j]!) := by
      have h1 : j < (flatK encI 32 m.toArray).size := hj
      have hF' : (flatK encI 32 m.toArray)[j]? = (m.flatMap encI)[j]? := by rw [← Array.getElem?_toList, hF]
      rw [getElem!_pos _ j h1, ← Array.getElem?_eq_getElem h1, hF', ← Array.getElem?_toList, hC, List.getElem?_append_left (by rw [flat_length encI 32 encI_length]; exact hj')]
    refine ⟨?_, ?_⟩
    · unfold World.cell?
      simp only [hb, Option.isSome_none, Bool.false_eq_true, if_false, Nat.zero_add]
      exact hc
    · have := hu j (by omega)
      simp only [World.frozen?, hb, Bool.and_eq_false_iff, decide_eq_false_iff_not, Nat.zero_add]
      omega
  have hblk : blk < w.heap.size := (Array.getElem?_eq_some_iff.1 hb).1
  have hcmp : Go.Proofs.CmpLays Pg n_id_compare #[] encI 32 cmpI blk 0 m.toArray.size w := fun _ _ _ _ x y => cmp_walk x.1 y.1 x.2 y.2 _
  exact Go.Proofs.AnyQ.slices_SortFunc_total Go.Proofs.Tryz.sortIds 32 (run_agg (b := true) (by kernel_rfl)) (run_size (n := 32) (by kernel_rfl)) encI encI_length (fun x v hv => by
    obtain ⟨b, _, rfl⟩ := List.mem_map.1 hv; rfl) cmpI swoI n_id_compare #[] blk 0 cap m.toArray w enters_compare hcmp hH hblk (by simpa using hm) (fun x y h k => Subtype.ext (ltB_total h k))

theorem f_slices_SortFunc_Id {H : HP} {t : Nat} (l : List Bs) (ex : List V) (hl : l.length < 1100000) (h0 : 0 < l.length) (h : ∀ a ∈ l, a.length = 32) (hH : H[t]? = some (.cell (.agg (l.map idV ++ ex)))) :
    TC Pg n_slices_SortFunc_Id [.arr t [] 0 l.length 32, .fn n_id_compare [] []] H fun r H' => r = .tup [] ∧ H' = H.set t (.cell (.agg ((sortB l).map idV ++ ex))) := by
  rintro σ cargs rfl I ⟨c, d, rfl, h1, c2, d2, rfl, h2, h3⟩
  have h3 : d2 = [] := h3
  subst h3
  obtain ⟨sh, o, l', cap, ad, g1, g2, g3, g4, g5, g6, g7, rfl⟩ := repV_arr.1 h1
  obtain ⟨cf, cc, rfl, k2, k3⟩ := repV_fn.1 h2
  have k2 : cf.toList = [] := k2
  have k3 : cc.toList = [] := k3
  have k2 : cf = #[] := by simpa using k2
  have k3 : cc = #[] := by simpa using k3
  subst k2; subst k3
  have ho : o = 0 := by
    cases hsh : sh <;> rw [hsh] at g3 <;> simpa [Sh.off] using g3.symm
  subst ho
  have g7 := g7 h0
  rw [show 0 + 0 * 32 = 0 from rfl] at g7
  subst g7
  obtain ⟨C, e, fr, b1, b2, b3, b4⟩ := I.blk t _ hH
  obtain ⟨rest, q1, q2⟩ := ids_split b3
  have ht := told_val l h
  have htl : (told l h).length = l.length := by simpa using congrArg List.length ht
  have hC : C.toList = (told l h).flatMap encI ++ rest := by rw [told_flat, ht]; exact q1
  have hsort := told_sort (told l h)
  rw [ht] at hsort
  generalize told l h = m at *
  show Answers Pg _ _
  unfold Answers
  rw [enters_SortFunc]
  have := sort_calls m (σ.g.b t) cap σ.w C e fr rest b1 b2 hC (by omega)
  rw [htl] at this
  refine this.mono ?_
  rintro _ w' ⟨rfl, n, os, rfl⟩
  refine ⟨_, rfl, .tup [], ?_⟩
  generalize hS : (m.mergeSort fun x y => !(Go.Proofs.ltOf cmpI) y x) = S at *
  have hSl : S.length = m.length := by rw [← hS]; exact (List.mergeSort_perm _ _).length_eq
  have hsz : C.size = m.length * 32 + rest.length := by
    have : C.toList.length = (m.flatMap encI ++ rest).length := by rw [hC]
    simpa [flat_length encI 32 encI_length] using this
  have hsC : (putCells id 0 (flatK encI 32 S.toArray) C).toList = (sortB l).flatMap encB ++ rest := by
    rw [putCells_list _ _ (by simp; omega), flatK_list encI 32 encI_length (by decide), hC]
    have e1 : (flatK encI 32 S.toArray).size = (m.flatMap encI).length := by simp [flat_length encI 32 encI_length, hSl]
    rw [e1, List.drop_left, ← hsort, told_flat]
  have hblk : σ.g.b t < σ.w.heap.size := (Array.getElem?_eq_some_iff.1 b1).1
  let w1 : World := putRowK encI 32 (Go.Sort.ahead σ.w n) (σ.g.b t) 0 S.toArray
  have hw1 : w1.heap = σ.w.heap.modify (σ.g.b t) (onCells (putCells id 0 (flatK encI 32 S.toArray))) := rfl
  let nb : Blk := .cell (.agg ((sortB l).map idV ++ ex))
  have hwr : Wr σ w1 t := ⟨rfl, rfl, rfl, by rw [hw1]; simp, fun b hb => by rw [hw1, Array.getElem?_modify, if_neg (fun h => hb h.symm)]⟩
  have hk : sameKind (.cell (.agg (l.map idV ++ ex))) nb := by
    show V.shape _ = V.shape _
    have hids : ∀ l : List Bs, (∀ a ∈ l, a.length = 32) → V.shapeL (l.map idV) = List.replicate l.length (.agg (List.replicate 32 .one)) := by
      intro l
      induction l with
      | nil => intro _; rfl
      | cons a l ih => intro hl; rw [List.map_cons, V.shapeL, id_shape (hl a (by simp)), ih fun x hx => hl x (by simp [hx])]; rfl
    have happ : ∀ a b : List V, V.shapeL (a ++ b) = V.shapeL a ++ V.shapeL b := fun a b => by simp [V.shapeL_eq]
    simp only [V.shape, happ]
    rw [hids l h, hids (sortB l) (fun a ha => h a ((sortB_perm l).mem_iff.1 ha)), sortB_length]
  have hblkok : BlkOk (σ.wr w1 t nb) t nb := by
    refine ⟨putCells id 0 (flatK encI 32 S.toArray) C, e, fr, ?_, ?_, ?_, b4⟩
    · show w1.heap[σ.g.b t]? = _
      rw [hw1, Array.getElem?_modify, if_pos rfl, b1]; rfl
    · intro o ho
      exact b2 o (by simpa [putCells] using ho)
    · show RepC _ _ _
      rw [hsC]
      exact RepL.append (ids_cells _) (RepL.mono (St.wr_tr I hwr hH hk σ.H.length).le _ _ q2)
  have I1 := St.wr_inv I hwr hH hk hblkok
  have T1 := St.wr_tr I hwr hH hk σ.H.length
  have hbel : Below w1.heap.size w1 (grow w1 os) := ⟨rfl, rfl, rfl, by simp [grow], fun k hk => by simp [grow, Array.getElem?_append, hk]⟩
  obtain ⟨I2, T2⟩ := below_state (σ := σ.wr w1 t nb) I1 hbel
  refine ⟨{ σ.wr w1 t nb with w := grow w1 os }, rfl, I2, repV_tup.2 ⟨#[], rfl, rfl⟩, T1.trans (T2.mono (by simp [St.wr])), rfl, rfl⟩
end Go.Abs
end

section
namespace Go.Abs
open Go
set_option maxRecDepth 20000

theorem fk_slices_Clone_Id (l : List Bs) (hl : l.length < 1100000) : TC Pg n_slices_Clone_Id [.sl 32 (l.map idV) .view] [] fun r H' =>
    (l = [] ∧ r = .sl 32 [] .full ∧ H' = []) ∨ (l ≠ [] ∧ ∃ ex, r = .arr 0 [] 0 l.length 32 ∧ H' = [.cell (.agg (l.map idV ++ ex))]) := by
  refine TC.bodyK k_slices_Clone_Id hP rfl ?_
  simp [c_slices_Clone_Id, r_slices_Clone_Id]
  omega
/-- Neighbours that are one, once. -/
def dedB (l : List Bs) : List Bs := l.foldl (fun o x => if o.getLast? = some x then o else o ++ [x]) []
theorem dedB_snoc (l : List Bs) (x : Bs) : dedB (l ++ [x]) = if (dedB l).getLast? = some x then dedB l else dedB l ++ [x] := by unfold dedB; rw [List.foldl_append]; rfl
theorem dedB_last (l : List Bs) (x : Bs) : (dedB (l ++ [x])).getLast? = some x := by
  rw [dedB_snoc]; split
  · assumption
  · simp
theorem dedB_len : ∀ n (l : List Bs), l.length = n → (dedB l).length ≤ n
  | 0, l, h => by have : l = [] := List.length_eq_zero_iff.1 h; subst this; simp [dedB]
  | n + 1, l, h => by
    have hne : l ≠ [] := by rintro rfl; simp at h
    have ih := dedB_len n l.dropLast (by simp [h])
    rw [← List.dropLast_concat_getLast hne, dedB_snoc]
    split
    · omega
    · simp; omega
/-- One step further. -/
theorem dedB_step {l : List Bs} {j : Nat} (h : j + 1 < l.length) : dedB (l.take (j + 2)) = if l[j] = l[j + 1] then dedB (l.take (j + 1)) else dedB (l.take (j + 1)) ++ [l[j + 1]] := by
  have e1 : l.take (j + 2) = l.take (j + 1) ++ [l[j + 1]] := by rw [List.take_add_one, List.getElem?_eq_getElem h]; rfl
  have e2 : l.take (j + 1) = l.take j ++ [l[j]] := by rw [List.take_add_one, List.getElem?_eq_getElem (by omega)]; rfl
  have hlast : (dedB (l.take (j + 1))).getLast? = some l[j] := by rw [e2]; exact dedB_last _ _
  rw [e1, dedB_snoc, hlast]
  simp

theorem fk_slices_Compact_Id (l : List Bs) (ex : List V) (hl : l.length < 1100000) (h : ∀ a ∈ l, a.length = 32) : TC Pg n_slices_Compact_Id [.arr 0 [] 0 l.length 32] [.cell (.agg (l.map idV ++ ex))] fun r H' =>
    ∃ ex', r = .arr 0 [] 0 (dedB l).length 32 ∧ H' = [.cell (.agg ((dedB l).map idV ++ ex'))] := by
  refine TC.bodyK k_slices_Compact_Id hP rfl ?_
  have hget : ∀ (l : List Bs) (ex : List V) (i : Nat) (hi : i < l.length), (l.map idV ++ ex)[i]? = some (idV l[i]) := fun l ex i hi => by rw [List.getElem?_append_left (by simpa using hi)]; simp [hi]
  simp [c_slices_Compact_Id, r_slices_Compact_Id]
  refine ⟨fun h2 => ?_, fun h2 => ?_⟩
  · have : dedB l = l := by
      match l, h2 with
      | [], _ => rfl
      | [a], _ => simp [dedB]
      | a :: b :: r, h2 => simp at h2; omega
    rw [this]; simp
  · have h2 : 2 ≤ l.length := by omega
    refine AW_wloop (fun j : Nat => [(0, .arr 0 [] 0 l.length 32), (3, .int .i64 ((j + 1 : Nat) : Int))]) (fun _ => [.cell (.agg (l.map idV ++ ex))]) (fun j => j + 1 ≤ l.length ∧ dedB (l.take (j + 1)) = l.take (j + 1)) (fun j => l.length - j) 0
      ⟨by omega, ?_⟩ (Weak.of_eq (by simp) (by simp)) ?_
    · obtain ⟨a, r, rfl⟩ : ∃ a r, l = a :: r := by cases l; simp at h2; exact ⟨_, _, rfl⟩
      simp [dedB]
    rintro j ⟨hj, hno⟩
    rcases Nat.lt_or_ge (j + 1) l.length with h' | h'
    · have hk1 : IntKind.i64.wrap ((j : Int) + 1 + 1) = ((j + 1 + 1 : Nat) : Int) := by rw [wrap_i64 (by omega) (by omega)]; omega
      have hk0 : IntKind.i64.wrap (j : Int) = (j : Int) := i64_of j (by omega)
      have hjj : (j : Int) + 1 < l.length := by omega
      have g1 := hget l ex j (by omega)
      have g2 := hget l ex (j + 1) h'
      have hm1 : l[j] ∈ l := List.getElem_mem _
      have hm2 : l[j + 1] ∈ l := List.getElem_mem _
      have hstep := dedB_step h'
      generalize hx : l[j] = x at *
      generalize hy : l[j + 1] = y at *
      have s1 := id_shape (h x hm1)
      have s2 := id_shape (h y hm2)
      have f1 := id_fits (h x hm1)
      have f2 := id_fits (h y hm2)
      simp [hjj, hk0, g1, g2, s1, s2, f1, f2, id_eq]
      refine ⟨by omega, by omega, fun e => ⟨⟨by omega, by omega⟩, ?_⟩, fun e => ⟨j + 1, ⟨h', ?_⟩, by omega, by omega⟩⟩
      · subst e
        rw [if_pos rfl] at hstep
        rw [hno] at hstep
        refine AW_wloop (fun q : Nat × Nat × List Bs => [(0, .arr 0 [] 0 l.length 32), (3, .int .i64 q.2.1), (4, .arr 0 [] (j + 1) (l.length - (j + 1)) 32), (5, .int .i64 ((q.1 + 1 : Nat) : Int))]) (fun q => [.cell (.agg (q.2.2.map idV ++ ex))])
          (fun q => j + 1 + q.1 + 1 ≤ l.length ∧ q.2.2.length = l.length ∧ (∀ a ∈ q.2.2, a.length = 32) ∧ q.2.2.drop (j + 1 + q.1) = l.drop (j + 1 + q.1) ∧ q.2.2.take q.2.1 = dedB (l.take (j + 1 + q.1 + 1)) ∧ q.2.1 ≤ j + 1 + q.1) (fun q => l.length - q.1) (0, j + 1, l)
          ⟨by show j + 1 + 0 + 1 ≤ _; omega, rfl, h, rfl, hstep.symm, Nat.le_refl _⟩ (Weak.of_eq (by simp) (by simp)) ?_
        rintro ⟨q, k, cur⟩ ⟨i1, i2, i3, i4, i5, i6⟩
        simp only at i1 i2 i3 i4 i5 i6
        rcases Nat.lt_or_ge (j + 1 + q + 1) l.length with h'' | h''
        · have hst := dedB_step (l := l) (j := j + 1 + q) h''
          have c1 : cur[j + 1 + q]'(by omega) = l[j + 1 + q] := by
            have := congrArg (fun z => z[0]?) i4
            simpa [List.getElem?_drop, i2, show j + 1 + q < l.length by omega] using this
          have c2 : cur[j + 1 + q + 1]'(by omega) = l[j + 1 + q + 1] := by
            have := congrArg (fun z => z[1]?) i4
            simpa [List.getElem?_drop, i2, h'', show j + 1 + q + 1 < l.length by omega] using this
          have g3 := hget cur ex (j + 1 + q) (by omega)
          have g4 := hget cur ex (j + 1 + q + 1) (by omega)
          have g5 := hget cur ex k (by omega)
          rw [c1] at g3
          rw [c2] at g4
          have hm3 : l[j + 1 + q] ∈ l := List.getElem_mem _
          have hm4 : l[j + 1 + q + 1] ∈ l := List.getElem_mem _
          have hm5 : cur[k]'(by omega) ∈ cur := List.getElem_mem _
          generalize l[j + 1 + q] = u at *
          generalize l[j + 1 + q + 1] = v at *
          generalize cur[k]'(by omega) = z at *
          have s3 := id_shape (h u hm3)
          have s4 := id_shape (h v hm4)
          have s5 := id_shape (i3 z hm5)
          have f3 := id_fits (h u hm3)
          have f4 := id_fits (h v hm4)
          have hqq : (q : Int) + 1 < ((l.length - (j + 1) : Nat) : Int) := by omega
          have hq0 : IntKind.i64.wrap (q : Int) = (q : Int) := i64_of q (by omega)
          have hq1 : IntKind.i64.wrap ((q : Int) + 1 + 1) = ((q + 1 + 1 : Nat) : Int) := by rw [wrap_i64 (by omega) (by omega)]; omega
          have hk1 := i64_succ k (by omega)
          have e1 : j + 1 + (q + 1) = j + 1 + q + 1 := by omega
          simp [hqq, hq0, hq1, hk1, e1, g3, g4, g5, s3, s4, s5, f3, f4, id_eq]
          refine ⟨by omega, by omega, ?_⟩
          by_cases e : v = u
          · subst e
            rw [if_pos rfl] at hst
            refine .inl ⟨rfl, q + 1, k, cur, ⟨by omega, i2, i3, ?_, by rw [i5, ← hst]; rfl, by omega⟩, by omega, ⟨rfl, by omega⟩, rfl⟩
            show List.drop (j + 1 + q + 1) cur = List.drop (j + 1 + q + 1) l
            have := congrArg (fun z => z.drop 1) i4
            simpa [List.drop_drop] using this
          · rw [if_neg (fun q => e q.symm)] at hst
            refine .inr ⟨e, by omega, by omega, q + 1, k + 1, cur.set k v, ⟨by omega, by simpa using i2, ?_, ?_, ?_, by omega⟩, by omega, ⟨by omega, by omega⟩, ?_⟩
            · intro a ha
              rcases List.mem_or_eq_of_mem_set ha with ha | rfl
              · exact i3 a ha
              · exact h _ hm4
            · rw [List.drop_set_of_lt (by omega)]
              show List.drop (j + 1 + q + 1) cur = List.drop (j + 1 + q + 1) l
              have := congrArg (fun z => z.drop 1) i4
              simpa [List.drop_drop] using this
            · show _ = dedB (l.take (j + 1 + q + 2))
              rw [hst, ← i5, List.take_add_one, List.getElem?_set_self (by omega), List.take_set_of_le (by omega)]
              rfl
            · rw [List.set_append_left _ _ (by simp; omega), List.map_set]
        · have hqq : ¬ (q : Int) + 1 < ((l.length - (j + 1) : Nat) : Int) := by omega
          simp [hqq]
          have hend : j + 1 + q + 1 = l.length := by omega
          rw [hend, List.take_length] at i5
          have hkl : k = (dedB l).length := by rw [← i5, List.length_take]; omega
          refine ⟨by omega, fun i hi => ?_, by omega, hkl, ?_⟩
          · have hi' : k + i < cur.length := by omega
            have hid := id_shape (i3 _ (List.getElem_mem hi'))
            rw [List.getElem?_append_left (by simpa using hi'), List.getElem?_map, List.getElem?_eq_getElem hi', Option.map_some, Function.comp_apply, hid]
            rfl
          · rw [List.take_append_of_le_length (by simp; omega), ← List.map_take, i5]
            exact ⟨_, rfl⟩
      · rw [hstep, if_neg (fun q => e q.symm), hno]
        rw [List.take_add_one (i := j + 1), List.getElem?_eq_getElem h', hy]
        rfl
    · have : j + 1 = l.length := by omega
      have hjj : ¬ (j : Int) + 1 < l.length := by omega
      rw [this, List.take_length] at hno
      simp [hjj, hno]

theorem f_slices_SortFunc_none {H : HP} : TC Pg n_slices_SortFunc_Id [.sl 32 [] .view, .fn n_id_compare [] []] H fun r H' => r = .tup [] ∧ H' = H := by
  rintro σ cargs rfl I ⟨c, d, rfl, h1, c2, d2, rfl, h2, h3⟩
  have h3 : d2 = [] := h3
  subst h3
  obtain ⟨ad, cap, rfl, g2, g3, g4⟩ := repV_sl.1 h1
  obtain ⟨cf, cc, rfl, k2, k3⟩ := repV_fn.1 h2
  have k2 : cf.toList = [] := k2
  have k3 : cc.toList = [] := k3
  have k2 : cf = #[] := by simpa using k2
  have k3 : cc = #[] := by simpa using k3
  subst k2; subst k3
  show Answers Pg _ _
  unfold Answers
  rw [enters_SortFunc]
  refine Calls.mono (Go.Proofs.AnyF.slices_SortFunc_none Go.Proofs.Tryz.sortIds ad cap (.func (.func n_id_compare) #[] #[]) σ.w) ?_
  rintro _ w' ⟨rfl, rfl⟩
  exact ⟨_, rfl, .tup [], σ, rfl, I, repV_tup.2 ⟨#[], rfl, rfl⟩, Tr.refl _ _, rfl, rfl⟩
theorem f_slices_Compact_none : TCp Pg n_slices_Compact_Id [.sl 32 [] .view] (.sl 32 [] .view) := by
  refine TCp.bodyV k_slices_Compact_Id hP rfl (by simp) (by simp) ?_
  simp [c_slices_Compact_Id, r_slices_Compact_Id]

theorem f_id_Sort (l : List Bs) (hl : l.length < 1100000) (h : ∀ a ∈ l, a.length = 32) : TCp Pg n_id_Sort [.sl 32 (l.map idV) .view] (.sl 32 ((dedB (sortB l)).map idV) .view) := by
  refine TCp.bodyV k_id_Sort hP rfl (by simp) (by simp) ?_
  simp [c_id_Sort, r_id_Sort]
  refine CallB.w (fk_slices_Clone_Id l hl) ?_
  rintro r H' (⟨rfl, rfl, rfl⟩ | ⟨hne, ex, rfl, rfl⟩)
  · simp
    refine CallB.w f_slices_SortFunc_none ?_
    rintro _ _ ⟨rfl, rfl⟩
    simp
    refine CallB.p f_slices_Compact_none ?_
    simp [sortB, dedB]
  · simp
    have h0 : 0 < l.length := List.length_pos_iff.2 hne
    refine CallB.w (f_slices_SortFunc_Id (t := 0) l ex hl h0 h rfl) ?_
    rintro _ _ ⟨rfl, rfl⟩
    have hs := sortB_length l
    have hm : ∀ a ∈ sortB l, a.length = 32 := fun a ha => h a ((sortB_perm l).mem_iff.1 ha)
    rw [← hs]
    simp
    refine CallB.w (fk_slices_Compact_Id (sortB l) ex (by omega) hm) ?_
    rintro _ _ ⟨ex', rfl, rfl⟩
    simp
end Go.Abs
end

section
namespace Go.Abs
open Go

theorem findV_ids {α : Type} (f : α → Bs) (a : Bs) : ∀ (l : List α) (i : Nat), findV (idV a) (l.map fun x => idV (f x)) i = (l.findIdx? fun x => decide (a = f x)).map (· + i)
  | [], i => rfl
  | x :: l, i => by
    simp only [List.map_cons, findV, id_eq, List.findIdx?_cons]
    by_cases e : a = f x
    · simp [e]
    · simp only [e, decide_false, Bool.false_eq_true, if_false, findV_ids f a l (i + 1), Option.map_map]
      congr 1
      funext n
      simp; omega
theorem findV_none {α : Type} {f : α → Bs} {a : Bs} {l : List α} (h : ∀ x ∈ l, ¬ a = f x) : findV (idV a) (l.map fun x => idV (f x)) 0 = none := by
  rw [findV_ids, List.findIdx?_eq_none_iff.2 fun x hx => by simp [h x hx]]; rfl
theorem findV_some {α : Type} {f : α → Bs} {a : Bs} {l : List α} (h : ∃ x ∈ l, a = f x) : ∃ i, ∃ hi : i < l.length, findV (idV a) (l.map fun x => idV (f x)) 0 = some i ∧ f l[i] = a ∧ l.find? (fun x => decide (a = f x)) = some l[i] := by
  cases e : l.findIdx? fun x => decide (a = f x) with
  | none =>
    obtain ⟨x, hx, rfl⟩ := h
    have := List.findIdx?_eq_none_iff.1 e x hx
    simp at this
  | some i =>
    obtain ⟨h1, h2, h3⟩ := List.findIdx?_eq_some_iff_getElem.1 e
    refine ⟨i, h1, by rw [findV_ids, e]; rfl, by simpa using (of_decide_eq_true h2).symm, ?_⟩
    rw [List.find?_eq_some_iff_getElem]
    exact ⟨h2, i, h1, rfl, fun j hj => by simpa using h3 j hj⟩

theorem findV_no {a : Bs} {l : List Bs} (h : ¬ a ∈ l) : findV (idV a) (l.map idV) 0 = none := findV_none (f := fun x => x) fun _x hx e => h (e ▸ hx)
theorem findV_yes {a : Bs} {l : List Bs} (h : a ∈ l) : ∃ i, ∃ hi : i < l.length, findV (idV a) (l.map idV) 0 = some i ∧ l[i] = a := by
  obtain ⟨i, h1, h2, h3, _⟩ := findV_some (f := fun x => x) (a := a) (l := l) ⟨a, h, rfl⟩
  exact ⟨i, h1, h2, h3⟩
theorem ids_fits {l : List Bs} (h : ∀ a ∈ l, a.length = 32) : ∀ x ∈ l.map idV, TD.fits (.arr 32 (.int .u8)) x = true := by
  intro x hx
  obtain ⟨a, ha, rfl⟩ := List.mem_map.1 hx
  exact id_fits (h a ha)
theorem trues_plain (l : List Bs) : ∀ x ∈ l.map (fun _ => V.bool true), x.plain = true := by
  intro x hx
  obtain ⟨a, ha, rfl⟩ := List.mem_map.1 hx
  rfl
/-- A set of ids as a map. -/
def trues (l : List Bs) : List V := l.map fun _ => V.bool true
@[simp] theorem trues_length (l : List Bs) : (trues l).length = l.length := by simp [trues]
@[simp] theorem trues_fzL (d : Nat → Bool) (H : HP) (F : Option (V → V)) (l : List Bs) : fzL d H F (trues l) = trues l := fzL_under d H F _ ((underL_iff 0 _).2 fun x hx => by
  obtain ⟨a, _, rfl⟩ := List.mem_map.1 hx; rfl)
@[simp] theorem trues_underL (m : Nat) (l : List Bs) : V.underL m (trues l) = true := (underL_iff m _).2 fun x hx => by
  obtain ⟨a, _, rfl⟩ := List.mem_map.1 hx; rfl
theorem trues_get {l : List Bs} {i : Nat} (h : i < l.length) : (trues l)[i]? = some (.bool true) := by simp [trues, h]
end Go.Abs
end

section
namespace Go.Abs
open Go
open Go.Proofs.YtblnejkfaniljaaGreatDoor.Rows (uptoBulk uptoBulkAll)

/-- Types of plain data. -/
inductive PT where
  | bool
  | int (k : IntKind)
  | str
  | sl (e : PT)
  | agg (l : List PT)
  | arr (n : Nat) (e : PT)

mutual
def PT.size : PT → Nat
  | .agg l => PT.sizeL l
  | .arr n e => n * e.size
  | _ => 1
def PT.sizeL : List PT → Nat
  | [] => 0
  | e :: l => e.size + PT.sizeL l
end

mutual
/-- Is a type of the program's so? -/
def PT.chk (P : Program) : PT → TypeId → Bool
  | .bool, t => P.cellsOf t == 1 && match P.underlying t with | some .bool => true | _ => false
  | .int k, t => P.cellsOf t == 1 && match P.underlying t with | some (.int k') => decide (k' = k) | _ => false
  | .str, t => P.cellsOf t == 1 && match P.underlying t with | some .string => true | _ => false
  | .sl e, t => P.cellsOf t == 1 && match P.underlying t with | some (.slice u) => decide (0 < e.size) && e.chk P u | _ => false
  | .agg l, t => P.cellsOf t == PT.sizeL l && match P.underlying t with | some (.struct fs) => PT.chkL P l 0 fs.toList | _ => false
  | .arr n e, t => P.cellsOf t == n * e.size && match P.underlying t with | some (.array m u) => decide (m = n) && e.chk P u | _ => false
def PT.chkL (P : Program) : List PT → Nat → List Field → Bool
  | [], _, [] => true
  | e :: l, o, f :: fs => f.offset == o && e.chk P f.type && PT.chkL P l (o + e.size) fs
  | _, _, _ => false
end

mutual
/-- The values of a type. -/
def PT.Fit : PT → V → Prop
  | .bool, v => ∃ b, v = .bool b
  | .int k, v => ∃ n, v = .int k n ∧ k.has n
  | .str, v => ∃ s, v = .str s
  | .sl e, v => ∃ xs, v = .sl e.size xs .view ∧ ∀ x ∈ xs, e.Fit x
  | .agg l, v => ∃ xs, v = .agg xs ∧ PT.FitL l xs
  | .arr n e, v => ∃ xs, v = .agg xs ∧ xs.length = n ∧ ∀ x ∈ xs, e.Fit x
def PT.FitL : List PT → List V → Prop
  | [], xs => xs = []
  | e :: l, xs => ∃ x ys, xs = x :: ys ∧ e.Fit x ∧ PT.FitL l ys
end

mutual
/-- How much a value holds. -/
def V.bulk : V → Nat
  | .str s => s.length + 1
  | .agg xs => V.bulkL xs + 1
  | .sl _ xs _ => V.bulkL xs + 1
  | _ => 1
def V.bulkL : List V → Nat
  | [] => 0
  | x :: xs => x.bulk + V.bulkL xs
end

theorem PT.chk_cells {P : Program} {p : PT} {t : TypeId} (h : p.chk P t = true) : P.cellsOf t = p.size := by
  cases p <;> simp only [PT.chk, Bool.and_eq_true, beq_iff_eq] at h <;> simp [PT.size, h.1]

theorem V.bulkL_append (a b : List V) : V.bulkL (a ++ b) = V.bulkL a + V.bulkL b := by
  induction a with
  | nil => simp [V.bulkL]
  | cons x a ih => simp [V.bulkL, ih]; omega
theorem V.bulkL_mem {x : V} : ∀ {l : List V}, x ∈ l → x.bulk ≤ V.bulkL l
  | y :: l, h => by
    rw [V.bulkL]
    rcases List.mem_cons.1 h with rfl | h
    · omega
    · have := V.bulkL_mem h; omega
theorem V.bulk_pos (v : V) : 1 ≤ v.bulk := by cases v <;> simp [V.bulk]
theorem V.bulkL_length (l : List V) : l.length ≤ V.bulkL l := by
  induction l with
  | nil => simp
  | cons x l ih => have := x.bulk_pos; rw [V.bulkL, List.length_cons]; omega

theorem bulk_range {H : Type} {D : Nat → DataW H} {v : Nat → V} (n : Nat) (h : ∀ i, i < n → (v i).bulk ≤ uptoBulk (D i)) : V.bulkL ((List.range n).map v) ≤ uptoBulkAll ((List.range n).map D) := by
  have key : ∀ l : List Nat, (∀ i ∈ l, i < n) → V.bulkL (l.map v) ≤ uptoBulkAll (l.map D) := by
    intro l
    induction l with
    | nil => intro _; simp [V.bulkL]
    | cons i l ih =>
      intro hl
      have h1 := h i (hl i (by simp))
      have h2 := ih fun j hj => hl j (by simp [hj])
      simp only [List.map_cons, V.bulkL, uptoBulkAll]
      omega
  exact key _ fun i hi => List.mem_range.1 hi

/-- Elements by their index. -/
theorem RepE.of_get {σ : St} {sz : Nat} : ∀ {xs : List V} {b o : Nat}, (∀ i x, xs[i]? = some x → ∃ c, c.length = sz ∧ RepC σ x c ∧ σ.has b (o + i * sz) c) → RepE σ sz xs b o
  | [], _, _, _ => by simp [RepE]
  | x :: xs, b, o, h => by
    refine ⟨by simpa using h 0 x rfl, RepE.of_get fun i y hy => ?_⟩
    obtain ⟨c, h1, h2, h3⟩ := h (i + 1) y (by simpa using hy)
    refine ⟨c, h1, h2, ?_⟩
    rwa [show o + sz + i * sz = o + (i + 1) * sz by rw [Nat.succ_mul]; omega]

/-- Parts of one size, by their index. -/
theorem RepL.of_chunks {σ : St} {sz : Nat} {v : Nat → V} : ∀ (n k : Nat) (cs : List Value), cs.length = n * sz → (∀ i, i < n → RepC σ (v (k + i)) ((cs.drop (i * sz)).take sz)) → RepL σ ((List.range' k n).map v) cs
  | 0, k, cs, hl, _ => by
    simp at hl
    simp [RepL, hl]
  | n + 1, k, cs, hl, h => by
    rw [List.range'_succ, List.map_cons]
    simp only [RepL]
    refine ⟨cs.take sz, cs.drop sz, (List.take_append_drop sz cs).symm, by simpa using h 0 (by omega), RepL.of_chunks (sz := sz) n (k + 1) _ ?_ fun i hi => ?_⟩
    · rw [List.length_drop, hl, Nat.succ_mul]; omega
    · have := h (i + 1) (by omega)
      rw [List.drop_drop]
      rwa [show k + 1 + i = k + (i + 1) by omega, show sz + i * sz = (i + 1) * sz by rw [Nat.succ_mul]; omega]

section
variable {H : Type} {enc : TypeId × Value → H} {P : Program} {W : World} {spare : Nat → Bool} {held : Bool} {σ : St}

theorem read_fields {n : Nat} (ih : ∀ (p : PT) (t : TypeId) (cs : List Value) (x : DataW H × List MemPlace), p.chk P t = true → DataW.trod enc P W 0 spare held n t cs = some x → ∃ v, p.Fit v ∧ RepC σ v cs ∧ v.bulk ≤ uptoBulk x.1) (cs : List Value) :
    ∀ (l : List PT) (o : Nat) (fs : List Field) (xs : List (DataW H × List MemPlace)), PT.chkL P l o fs = true → xs.length = fs.length → cs.length = o + PT.sizeL l →
      (∀ (i : Nat) (f : Field), fs[i]? = some f → DataW.trod enc P W 0 spare held n f.type ((cs.drop f.offset).take (P.cellsOf f.type)) = xs[i]?) →
      ∃ vs, PT.FitL l vs ∧ RepL σ vs (cs.drop o) ∧ V.bulkL vs ≤ uptoBulkAll (xs.map (·.1))
  | [], o, [], xs, _, hx, hl, _ => by
    refine ⟨[], rfl, ?_, by simp [V.bulkL]⟩
    simp only [PT.sizeL] at hl
    simp [RepL, hl]
  | [], _, _ :: _, _, hc, _, _, _ => by simp [PT.chkL] at hc
  | _ :: _, _, [], _, hc, _, _, _ => by simp [PT.chkL] at hc
  | e :: l, o, f :: fs, [], _, hx, _, _ => by simp at hx
  | e :: l, o, f :: fs, x :: xs, hc, hx, hl, h => by
    simp only [PT.chkL, Bool.and_eq_true, beq_iff_eq] at hc
    obtain ⟨⟨h1, h2⟩, h3⟩ := hc
    simp only [PT.sizeL] at hl
    have h0 := h 0 f rfl
    rw [PT.chk_cells h2, h1] at h0
    obtain ⟨v, a1, a2, a3⟩ := ih e f.type _ x h2 h0
    obtain ⟨vs, b1, b2, b3⟩ := read_fields ih cs l (o + e.size) fs xs h3 (by simpa using hx) (by omega) fun i g hg => by simpa using h (i + 1) g (by simpa using hg)
    refine ⟨v :: vs, ⟨v, vs, rfl, a1, b1⟩, ?_, ?_⟩
    · simp only [RepL]
      refine ⟨(cs.drop o).take e.size, cs.drop (o + e.size), ?_, a2, b2⟩
      rw [← List.drop_drop, List.take_append_drop]
    · simp only [V.bulkL, List.map_cons, uptoBulkAll]
      omega

/-- WHAT IS READ, AS AN ABSTRACT VALUE: where all that the world holds is settled. -/
theorem read_pt (hw : σ.w = W) (hS : ∀ b o, b < W.heap.size → σ.S b o) : ∀ (n : Nat) (p : PT) (t : TypeId) (cs : List Value) (x : DataW H × List MemPlace), p.chk P t = true → DataW.trod enc P W 0 spare held n t cs = some x →
    ∃ v, p.Fit v ∧ RepC σ v cs ∧ v.bulk ≤ uptoBulk x.1
  | 0, _, _, _, _, _, h => by simp [DataW.trod] at h
  | n + 1, p, t, cs, x, hc, h => by
    have hcell := PT.chk_cells hc
    cases p with
    | bool =>
      simp only [PT.chk, Bool.and_eq_true] at hc
      have hu : P.underlying t = some .bool := by have := hc.2; split at this <;> simp_all
      obtain ⟨b, rfl, rfl⟩ := DataW.trod_bool hu h
      exact ⟨.bool b, ⟨b, rfl⟩, by simp [RepC], by simp [V.bulk, uptoBulk]⟩
    | int k =>
      simp only [PT.chk, Bool.and_eq_true] at hc
      have hu : P.underlying t = some (.int k) := by have := hc.2; split at this <;> simp_all
      obtain ⟨m, rfl, rfl, hwf⟩ := DataW.trod_int hu h
      simp only [Lit.wf, Bool.and_eq_true, decide_eq_true_eq] at hwf
      exact ⟨.int k m, ⟨m, rfl, hwf⟩, by simp [RepC], by simp [V.bulk, uptoBulk]⟩
    | str =>
      simp only [PT.chk, Bool.and_eq_true] at hc
      have hu : P.underlying t = some .string := by have := hc.2; split at this <;> simp_all
      obtain ⟨s, rfl, rfl, hl⟩ := DataW.trod_string hu h
      exact ⟨.str s.data.toList, ⟨_, rfl⟩, by simp [RepC], by simp [V.bulk, uptoBulk]⟩
    | sl e =>
      simp only [PT.chk, Bool.and_eq_true] at hc
      have hu : ∃ u, P.underlying t = some (.slice u) ∧ 0 < e.size ∧ e.chk P u = true := by have := hc.2; split at this <;> simp_all
      obtain ⟨u, hu, hpos, he⟩ := hu
      have hce := PT.chk_cells he
      rcases DataW.trod_slice hu h with ⟨rfl, rfl⟩ | ⟨a, len, cap, elems, rest, n', en, rfl, rfl, _, hlen, _, hel, hx, _, _⟩
      · exact ⟨.sl e.size [] .view, ⟨[], rfl, by simp⟩, by simp only [RepC]; exact ⟨none, 0, rfl, Nat.le_refl _, trivial, .inl trivial⟩, by simp [V.bulk, V.bulkL, uptoBulk]⟩
      · obtain rfl : n' = n := by omega
        subst hel
        have hx' : ∀ i, i < elems.length → ∃ v, ∃ c, W.cells? 0 (a.add (i * e.size)) e.size = some c ∧ e.Fit v ∧ RepC σ v c ∧ v.bulk ≤ uptoBulk (elems.getD i (.nil, [])).1 := by
          intro i hi
          have h1 := hx i hi
          rw [hce, List.getElem?_eq_getElem hi] at h1
          obtain ⟨c, h2, h3⟩ := Option.bind_eq_some_iff.1 h1
          obtain ⟨v, a1, a2, a3⟩ := read_pt hw hS n' e u c _ he h3
          exact ⟨v, c, h2, a1, a2, by rw [List.getD_eq_getElem?_getD, List.getElem?_eq_getElem hi]; exact a3⟩
        obtain ⟨v, hv⟩ := Go.Deep.choose_lt hx'
        refine ⟨.sl e.size ((List.range elems.length).map v) .view, ⟨_, rfl, fun y hy => ?_⟩, ?_, ?_⟩
        · obtain ⟨i, hi, rfl⟩ := List.mem_map.1 hy
          obtain ⟨_, _, h1, _⟩ := hv i (List.mem_range.1 hi)
          exact h1
        · simp only [RepC]
          refine ⟨some a, cap, by simp, by simpa using hlen, trivial, ?_⟩
          by_cases h0 : elems.length = 0
          · exact .inl (by simp [h0])
          obtain ⟨c, h1, _⟩ := hv 0 (by omega)
          obtain ⟨_, _, h4⟩ := World.cells?_some h1
          have h5 := h4 0 hpos
          rw [List.getElem?_eq_getElem (by omega)] at h5
          have h6 : a.spot = none ∧ a.block < W.heap.size := by
            rw [Nat.zero_mul] at h5
            simp only [Addr.add, if_true, World.cell?] at h5
            split at h5
            · rename_i hb
              refine ⟨?_, (Array.getElem?_eq_some_iff.1 hb).1⟩
              split at h5
              · cases h5
              · rename_i hs; simpa using hs
            · cases h5
          obtain ⟨ab, ao, asp⟩ := a
          simp only at h6
          obtain ⟨rfl, hbl⟩ := h6
          refine .inr ⟨ab, ao, rfl, RepE.of_get fun i x hix => ?_⟩
          have hi : i < elems.length := by simpa using (List.getElem?_eq_some_iff.1 hix).1
          obtain rfl : v i = x := by simpa [hi] using hix
          obtain ⟨c, g1, g2, g3, _⟩ := hv i hi
          obtain ⟨_, g5, g6⟩ := World.cells?_some g1
          refine ⟨c, g5, g3, fun k hk => ⟨hS _ _ hbl, ?_⟩⟩
          have g7 := g6 k (by omega)
          rw [Go.Deep.add_add, List.getElem?_eq_getElem hk] at g7
          rw [hw, ← g7]
          unfold Addr.add
          split
          · rename_i hz; rw [Nat.add_assoc, hz]; rfl
          · simp [Nat.add_assoc]
        · simp only [V.bulk, uptoBulk]
          have h1 : elems.map (·.1) = (List.range elems.length).map fun i => (elems.getD i (.nil, [])).1 := Go.Deep.map_by_index elems _ _
          rw [h1]
          have := bulk_range elems.length fun i hi => (hv i hi).choose_spec.2.2.2
          omega
    | agg l =>
      simp only [PT.chk, Bool.and_eq_true] at hc
      have hu : ∃ fs, P.underlying t = some (.struct fs) ∧ PT.chkL P l 0 fs.toList = true := by have := hc.2; split at this <;> simp_all
      obtain ⟨fs, hu, hf⟩ := hu
      obtain ⟨xs, n', en, rfl, hl, hxl, hx⟩ := DataW.trod_struct hu h
      obtain rfl : n' = n := by omega
      rw [hcell] at hl
      obtain ⟨vs, a1, a2, a3⟩ := read_fields (fun p t cs x h1 h2 => read_pt hw hS n' p t cs x h1 h2) cs l 0 fs.toList xs hf (by simpa using hxl) (by simpa [PT.size] using hl) fun i f hi => hx i f (by simpa using hi)
      refine ⟨.agg vs, ⟨vs, rfl, a1⟩, by simpa [RepC] using a2, ?_⟩
      simp only [V.bulk, uptoBulk]
      omega
    | arr m e =>
      simp only [PT.chk, Bool.and_eq_true] at hc
      have hu : ∃ u, P.underlying t = some (.array m u) ∧ e.chk P u = true := by have := hc.2; split at this <;> simp_all
      obtain ⟨u, hu, he⟩ := hu
      have hce := PT.chk_cells he
      obtain ⟨xs, n', en, rfl, hl, hxl, hx⟩ := DataW.trod_array hu h
      obtain rfl : n' = n := by omega
      subst hxl
      rw [hcell] at hl
      have hx' : ∀ i, i < xs.length → ∃ v, e.Fit v ∧ RepC σ v ((cs.drop (i * e.size)).take e.size) ∧ v.bulk ≤ uptoBulk (xs.getD i (.nil, [])).1 := by
        intro i hi
        have h1 := hx i hi
        rw [hce, List.getElem?_eq_getElem hi] at h1
        obtain ⟨v, a1, a2, a3⟩ := read_pt hw hS n' e u _ _ he h1
        exact ⟨v, a1, a2, by rw [List.getD_eq_getElem?_getD, List.getElem?_eq_getElem hi]; exact a3⟩
      obtain ⟨v, hv⟩ := Go.Deep.choose_lt hx'
      refine ⟨.agg ((List.range xs.length).map v), ⟨_, rfl, by simp, fun y hy => ?_⟩, ?_, ?_⟩
      · obtain ⟨i, hi, rfl⟩ := List.mem_map.1 hy
        exact (hv i (List.mem_range.1 hi)).1
      · simp only [RepC]
        rw [List.range_eq_range']
        exact RepL.of_chunks xs.length 0 cs (by simpa [PT.size] using hl) fun i hi => by simpa using (hv i hi).2.1
      · simp only [V.bulk, uptoBulk]
        have h1 : xs.map (·.1) = (List.range xs.length).map fun i => (xs.getD i (.nil, [])).1 := Go.Deep.map_by_index xs _ _
        rw [h1]
        have := bulk_range xs.length fun i hi => (hv i hi).2.2
        omega
end
end Go.Abs
end
