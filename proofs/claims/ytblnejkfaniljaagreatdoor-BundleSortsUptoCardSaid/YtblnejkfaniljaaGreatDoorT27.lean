/-
  The library's iterator over a text's parts: contracts. Paths: the program's contract (a range over the library's iterator).
  Conditions: those that stand ahead of each theorem; no more.
-/
import Derived.RangeFuncNested
import Derived.RangeFuncLeaves
import Derived.Shelf.RegionOpen
import Derived.WalkKit
import Derived.OwnWalkIn
import Derived.TacticsInMore
import Derived.LoopNIn
import Derived.LoopIn
import Derived.Test.YtblnejkfaniljaaGreatDoorT26

section
namespace Go.Abs
open Go Go.RowKit Go.Shelf Go.Proofs
attribute [local go_sem] Oper.semAt_some

/-- A variable in its block. -/
abbrev boxAt (W : World) (B : Nat) (t : TypeId) (v : Value) : Prop := W.heap[B]? = some (.cells #[v] t (0, 0))
theorem boxAt.cell {W : World} {B : Nat} {t : TypeId} {v : Value} (h : boxAt W B t v) : W.cell? ⟨B, 0, none⟩ = some v ∧ W.frozen? ⟨B, 0, none⟩ = false := by
  constructor <;> simp [World.cell?, World.frozen?, h]

set_option maxRecDepth 100000 in
theorem splitSeq_in (n : Nat) (s sep : ByteArray) (w : World) (_hn : 1 ≤ n) : CallsIn Fence.wide n Pg 167 #[.string s, .string sep, .int .i64 0] w fun e w' =>
    e = .returned (.func (.func 175) #[] #[.pointer (some ⟨w.heap.size + 1, 0, none⟩), .pointer (some ⟨w.heap.size, 0, none⟩), .pointer (some ⟨w.heap.size + 2, 0, none⟩)]) ∧
      w' = ((w.alloc (.cells #[.string s] 9)).alloc (.cells #[.string sep] 9)).alloc (.cells #[.int .i64 0] 3) := by
  refine callsIn_of_wp Tryz.func167 rfl trivial ?_ rfl
  simp only [Tryz.ntmps167, List.size_toArray, List.length_cons, List.length_nil, Nat.reduceAdd, Nat.reduceSub, Array.replicate_succ, Array.replicate_zero, List.push_toArray, List.append_toArray, List.nil_append, List.cons_append]
  gi_wp2
  go_ret
  exact ⟨rfl, rfl⟩

set_option maxRecDepth 100000 in
theorem SplitSeq_in (n : Nat) (s sep : ByteArray) (w : World) (hn : 2 ≤ n) : CallsIn Fence.wide n Pg 155 #[.string s, .string sep] w fun e w' =>
    e = .returned (.func (.func 175) #[] #[.pointer (some ⟨w.heap.size + 1, 0, none⟩), .pointer (some ⟨w.heap.size, 0, none⟩), .pointer (some ⟨w.heap.size + 2, 0, none⟩)]) ∧
      w' = ((w.alloc (.cells #[.string s] 9)).alloc (.cells #[.string sep] 9)).alloc (.cells #[.int .i64 0] 3) := by
  have hcon := splitSeq_in (n - 1) s sep w (by omega)
  refine callsIn_of_wp Tryz.func155 rfl trivial ?_ rfl
  simp only [Tryz.ntmps155, List.size_toArray, List.length_cons, List.length_nil, Nat.reduceAdd, Nat.reduceSub, Array.replicate_succ, Array.replicate_zero, List.push_toArray, List.append_toArray, List.nil_append, List.cons_append]
  have h1 : 1 ≤ n := by omega
  have h2 : Fence.wide.fn 167 := trivial
  gi_wp2_with (gi_at_call 167; refine hcon.mono ?_; rintro e w' ⟨rfl, rfl⟩)
  go_ret
  exact ⟨rfl, rfl⟩

/-- Where the first slash stands. -/
theorem index_slash : ∀ s : Bs, (∃ a r, s = a ++ 47 :: r ∧ (∀ x ∈ a, x ≠ 47) ∧ Lib.indexByte s 47 = a.length) ∨ ((∀ x ∈ s, x ≠ 47) ∧ Lib.indexByte s 47 = -1)
  | [] => .inr ⟨by simp, rfl⟩
  | b :: s => by
    unfold Lib.indexByte
    by_cases e : b = 47
    · subst e
      exact .inl ⟨[], s, rfl, by simp, by simp⟩
    · have e1 : (b == 47) = false := by simp [e]
      rcases index_slash s with ⟨a, r, h1, h2, h3⟩ | ⟨h1, h2⟩
      · refine .inl ⟨b :: a, r, by rw [h1]; rfl, ?_, ?_⟩
        · intro x hx
          rcases List.mem_cons.1 hx with rfl | hx
          · exact e
          · exact h2 x hx
        · simp [e1, h3]
      · refine .inr ⟨?_, by simp [e1, h2]⟩
        intro x hx
        rcases List.mem_cons.1 hx with rfl | hx
        · exact e
        · exact h1 x hx

/-- How much is left. -/
def leftAt (b : Nat) (W : World) : Nat := match W.cell? ⟨b, 0, none⟩ with
  | some (.string x) => x.size
  | _ => 0
theorem leftAt_eq {b : Nat} {W : World} {s : Bs} (h : boxAt W b 9 (.string ⟨s.toArray⟩)) : leftAt b W = s.length := by
  unfold leftAt
  rw [(boxAt.cell h).1]
  simp [ByteArray.size]

set_option maxRecDepth 100000 in
set_option maxHeartbeats 4000000 in
theorem split_iter (n : Nat) (hn : 3 ≤ n) (l b : Nat) (I : List Bs → Bs → World → Prop) (J : List Bs → World → Prop)
    (hI : ∀ pre rest W, I pre rest W → boxAt W b 9 (.string ⟨rest.toArray⟩) ∧ boxAt W (b + 1) 9 (.string ⟨#[47]⟩) ∧ boxAt W (b + 2) 3 (.int .i64 0))
    (hset : ∀ pre rest rest' W, I pre rest W → I pre rest' (W.setCell ⟨b, 0, none⟩ (.string ⟨rest'.toArray⟩)))
    (hY : ∀ pre rest x W, x.length < 1100000 → I pre rest W → YieldAt Fence.wide (n - 1) Pg l #[.string ⟨x.toArray⟩] W fun e W' => (e = .returned (.bool true) ∧ I (pre ++ [x]) rest W') ∨ (e = .returned (.bool false) ∧ J (pre ++ [x]) W'))
    (s : Bs) (hs : s.length < 1100000) (W : World) (h0 : I [] s W) :
    CallsIn Fence.wide n Pg 175 #[.func (.yield l) #[] #[], .pointer (some ⟨b + 1, 0, none⟩), .pointer (some ⟨b, 0, none⟩), .pointer (some ⟨b + 2, 0, none⟩)] W fun e W' =>
      (∃ v, e = .returned v) ∧ ((∃ rest, I (parts s) rest W') ∨ ∃ pre, pre <+: parts s ∧ J pre W') := by
  have h1 : 1 ≤ n := by omega
  have h2 : Fence.wide.fn 169 := trivial
  obtain ⟨q1, q2, q3⟩ := hI _ _ _ h0
  obtain ⟨q4, q5⟩ := boxAt.cell q2
  refine callsIn_of_wp Tryz.func175 rfl trivial ?_ rfl
  simp only [Tryz.ntmps175, List.size_toArray, List.length_cons, List.length_nil, Nat.reduceAdd, Nat.reduceSub, Array.replicate_succ, Array.replicate_zero, List.push_toArray, List.append_toArray, List.nil_append, List.cons_append]
  gi_wp2
  gi_loopw [] (fun wr => ∃ (pre : List Bs) (rest : Bs), parts s = pre ++ parts rest ∧ rest.length ≤ s.length ∧ I pre rest wr) (fun wr => leftAt b wr)
  case atStart => exact ⟨[], s, rfl, Nat.le_refl _, h0⟩
  case round =>
    obtain ⟨pre, rest, hp, hle, hJ⟩ := hrel
    obtain ⟨r1, r2, r3⟩ := hI _ _ _ hJ
    have hleft := leftAt_eq r1
    have r1' := r1
    obtain ⟨r1, r1b⟩ := boxAt.cell r1
    obtain ⟨r2, r2b⟩ := boxAt.cell r2
    obtain ⟨r3, r3b⟩ := boxAt.cell r3
    have hidx := fun W' => callsIn_wide (n := n - 1) |>.2 (Any.strings_Index_one Tryz.lays143 ⟨rest.toArray⟩ 47 W')
    rcases index_slash rest with ⟨a, r, e1, e2, e3⟩ | ⟨e2, e3⟩
    · rw [e3] at hidx
      change ∀ W', CallsIn Fence.wide (n - 1) Pg 169 _ _ _ at hidx
      have hal : a.length + 1 + r.length = rest.length := by rw [e1]; simp; omega
      obtain ⟨fn, tmps, assign, body, hy, hR⟩ := hY pre rest a wr (by omega) hJ
      have hpa : parts rest = a :: parts r := by rw [e1, parts_append _ _ e2]
      have hx1 : (⟨rest.toArray⟩ : ByteArray).extract 0 a.length = ⟨a.toArray⟩ := by rw [e1]; simp [ByteArray.extract, ByteArray.copySlice]
      have hx2 : (⟨rest.toArray⟩ : ByteArray).extract (a.length + 1) rest.length = ⟨r.toArray⟩ := by
        rw [e1]; simp [ByteArray.extract, ByteArray.copySlice]
        exact List.take_of_length_le (by omega)
      clear e1
      gi_wp2_with (gi_at_call 169; refine (hidx _).mono ?_; rintro e w' ⟨rfl, rfl⟩)
      refine hR.mono ?_
      rintro e W3 (⟨rfl, hJ3⟩ | ⟨rfl, hJ3⟩)
      · obtain ⟨t1, t2, t3⟩ := hI _ _ _ hJ3
        have t1' := t1
        have hset3 := hset _ _ r W3 hJ3
        obtain ⟨t1, t1b⟩ := boxAt.cell t1
        obtain ⟨t2, t2b⟩ := boxAt.cell t2
        have hleft3 := leftAt_eq (hI _ _ _ hset3).1
        gi_wp2
        go_roundw
        case rel => exact ⟨pre ++ [a], r, by rw [hp, hpa]; simp, by omega, hset3⟩
        case measure => rw [hleft3, hleft]; omega
      · gi_wp2
        refine bodyPost_ret (results_none rfl _ _ _) rfl ?_
        exact ⟨⟨_, rfl⟩, .inr ⟨pre ++ [a], ⟨parts r, by rw [hp, hpa]; simp⟩, hJ3⟩⟩
    · rw [e3] at hidx
      change ∀ W', CallsIn Fence.wide (n - 1) Pg 169 _ _ _ at hidx
      obtain ⟨fn, tmps, assign, body, hy, hR⟩ := hY pre rest rest wr (by omega) hJ
      have hpr : parts s = pre ++ [rest] := by rw [hp, parts_last _ e2]
      gi_wp2_with (gi_at_call 169; refine (hidx _).mono ?_; rintro e w' ⟨rfl, rfl⟩)
      refine hR.mono ?_
      rintro e W3 (⟨rfl, hJ3⟩ | ⟨rfl, hJ3⟩)
      · gi_wp2
        go_end0
        exact ⟨⟨_, rfl⟩, .inl ⟨rest, by rw [hpr]; exact hJ3⟩⟩
      · gi_wp2
        go_end0
        exact ⟨⟨_, rfl⟩, .inr ⟨pre ++ [rest], by rw [hpr]; exact List.prefix_refl _, hJ3⟩⟩
end Go.Abs
end

section
namespace Go.Abs
open Go Go.RowKit Go.Shelf Go.Proofs
attribute [local go_sem] Oper.semAt_some

set_option maxRecDepth 20000 in
/-- A contract of mine as one of the kit's. -/
theorem TCp.calls {P : Program} {f : FuncId} {args : List V} {r : V} (h : TCp P f args r) (hb : bodied P f = true) {cargs : List Value} (W : World) (ha : ∀ σ, RepAll σ args cargs) :
    Calls P f cargs.toArray W fun e w' => ∃ c, e = .returned c ∧ (∃ σ, RepV σ r c) ∧ Below W.heap.size W w' := by
  obtain ⟨fn, c, h1, h2, h3⟩ := bodied_iff hb
  let σ : St := { w := W, S := fun _ _ => False, g := ⟨fun _ => 0, fun _ => 0, fun _ => false⟩, H := [] }
  have I : Inv σ := ⟨fun _ _ h => h.elim, fun t x hx => by simp [σ] at hx, fun i j hi => by simp [σ, Res] at hi⟩
  have := h [] σ cargs rfl I (ha σ)
  have hent : (callFunc f cargs.toArray).run P σ.w = .ok (.enter f cargs.toArray) σ.w := by simp [callFunc, h1, h2, h3]
  unfold Answers at this
  rw [hent] at this
  refine Calls.mono this ?_
  rintro e w' ⟨c, rfl, r', σ', rfl, I', hr', htr, rfl, hH⟩
  exact ⟨c, rfl, ⟨σ', hr'⟩, ⟨htr.os, htr.tape, htr.output, htr.size, fun k hk => htr.keep k hk fun t ht => by simp [σ, Res] at ht⟩⟩

set_option maxRecDepth 20000 in
theorem b_part : bodied Pg n_path_part = true := by kernel_rfl
set_option maxRecDepth 20000 in
theorem part_in (m : Nat) (x : Bs) (hx : x.length < 1073741824) (W : World) : CallsIn Fence.wide m Pg n_path_part #[.string ⟨x.toArray⟩] W fun e W' => e = .returned (.bool (partOk x)) ∧ Below W.heap.size W W' := by
  refine callsIn_wide.2 ((TCp.calls (f_path_part x hx) b_part (cargs := [.string ⟨x.toArray⟩]) W fun σ => ⟨_, _, rfl, repV_str.2 rfl, rfl⟩).mono ?_)
  rintro e w' ⟨c, rfl, ⟨σ, hr⟩, hb⟩
  exact ⟨by rw [repV_bool.1 hr], hb⟩

/-- The program's state between two rounds. -/
structure PR (w : World) (R : Loop) (n : Int) (rest : Bs) (W : World) : Prop where
  below : Below w.heap.size w W
  res : boxAt W w.heap.size 4 (.bool false)
  cnt : boxAt W (w.heap.size + 1) 3 (.int .i64 n)
  rst : boxAt W (w.heap.size + 2) 9 (.string ⟨rest.toArray⟩)
  sep : boxAt W (w.heap.size + 3) 9 (.string ⟨#[47]⟩)
  sav : boxAt W (w.heap.size + 4) 3 (.int .i64 0)
  dfr : W.heap[w.heap.size + 5]? = some (.deferred (some []))
  lop : W.heap[w.heap.size + 6]? = some (.loop R)
/-- Its state where a round has said no. -/
structure PS (w : World) (R : Loop) (W : World) : Prop where
  below : Below w.heap.size w W
  res : boxAt W w.heap.size 4 (.bool false)
  dfr : W.heap[w.heap.size + 5]? = some (.deferred (some []))
  lop : W.heap[w.heap.size + 6]? = some (.loop { R with state := .done, pending := some .ret })

theorem heap_setCell {W : World} {b k : Nat} {v : Value} (h : k ≠ b) : (W.setCell ⟨b, 0, none⟩ v).heap[k]? = W.heap[k]? := by
  simp only [World.setCell, Array.getElem?_modify]
  rw [if_neg (fun e => h e.symm)]
theorem box_setCell {W : World} {b : Nat} {t : TypeId} {u v : Value} (h : boxAt W b t u) : boxAt (W.setCell ⟨b, 0, none⟩ v) b t v := by
  have h' : W.heap[b]? = some (.cells #[u] t (0, 0)) := h
  show (W.setCell ⟨b, 0, none⟩ v).heap[b]? = _
  simp only [World.setCell, Array.getElem?_modify, if_pos, h', Option.map_some]
  rfl
theorem box_putObj {W : World} {r b : Nat} {t : TypeId} {v : Value} {o : Obj} (h : boxAt W b t v) (hn : b ≠ r) : boxAt (W.putObj r o) b t v := (World.putObj_heap_other hn).trans h
theorem PR.set {w : World} {R : Loop} {n : Int} {rest rest' : Bs} {W : World} (h : PR w R n rest W) : PR w R n rest' (W.setCell ⟨w.heap.size + 2, 0, none⟩ (.string ⟨rest'.toArray⟩)) :=
  ⟨h.below.setCell (p := ⟨w.heap.size + 2, 0, none⟩) (by show w.heap.size ≤ w.heap.size + 2; omega) _, (heap_setCell (by omega)).trans h.res, (heap_setCell (by omega)).trans h.cnt, box_setCell h.rst, (heap_setCell (by omega)).trans h.sep, (heap_setCell (by omega)).trans h.sav,
    (heap_setCell (by omega)).trans h.dfr, (heap_setCell (by omega)).trans h.lop⟩

/-- Do the parts that have come suffice? -/
def goodB (pre : List Bs) : Bool := pre.all partOk && decide (pre.length ≤ 16)

theorem goodB_prefix {pre l : List Bs} (h : pre <+: l) (hg : goodB l = true) : goodB pre = true := by
  obtain ⟨t, rfl⟩ := h
  unfold goodB at *
  simp only [Bool.and_eq_true, decide_eq_true_eq, List.all_append, List.length_append] at *
  exact ⟨hg.1.1, by omega⟩

/-- What a round leaves as it was. -/
structure Kept (b : Nat) (W W' : World) : Prop where
  os : W'.os = W.os
  tape : W'.tape = W.tape
  output : W'.output = W.output
  size : W.heap.size ≤ W'.heap.size
  other : ∀ j, j < W.heap.size → j ≠ b → j ≠ b + 1 → W'.heap[j]? = W.heap[j]?

/-- How a round's body must end. -/
def BodyEnd (b : Nat) (x : Bs) (k : Nat) (W : World) : Exit → Act → World → Prop
  | .normal, _, W' => (k + 1 ≤ 16 ∧ partOk x = true) ∧ Kept b W W' ∧ boxAt W' b 4 (.bool false) ∧ boxAt W' (b + 1) 3 (.int .i64 (k + 1 : Nat))
  | .ret, _, W' => ¬ (k + 1 ≤ 16 ∧ partOk x = true) ∧ Kept b W W' ∧ boxAt W' b 4 (.bool false)
  | _, _, _ => False

theorem Kept.set {b : Nat} {W W' : World} {v : Value} (h : Kept b W W') : Kept b W (W'.setCell ⟨b, 0, none⟩ v) :=
  ⟨h.os, h.tape, h.output, by simpa [World.setCell] using h.size, fun j h1 h2 h3 => (heap_setCell h2).trans (h.other j h1 h2 h3)⟩
theorem box_lt {W : World} {b : Nat} {t : TypeId} {v : Value} (h : boxAt W b t v) : b < W.heap.size := (Array.getElem?_eq_some_iff.1 (show W.heap[b]? = some _ from h)).1

section
variable {w : World} {s : Bs} {n : Nat} {fn : FuncId} {tmps : Array Value} {assign body : Code} {A1 : Bs → Act}

/-- The loop's record. -/
def recOf (w : World) (fn : FuncId) (tmps : Array Value) (assign body : Code) : Loop := { state := .ready, pending := none, fn, tmps, params := #[10], assign, body, defers := w.heap.size + 5 }

theorem pr_yield (hassign : ∀ (x : Bs) W K, K (A1 x) W → assign.wpIn (Fence.wide.inRound (w.heap.size + 6)) n Pg (Exit.then K (fun _ _ _ => False)) { tmps := tmps.setIfInBounds 10 (.string ⟨x.toArray⟩), defers := [] } W)
    (hbody : ∀ (x : Bs) (k : Nat) W, x.length < 1100000 → k < 1000 → boxAt W w.heap.size 4 (.bool false) → boxAt W (w.heap.size + 1) 3 (.int .i64 k) → body.wpIn (Fence.wide.inRound (w.heap.size + 6)) n Pg (BodyEnd w.heap.size x k W) (A1 x) W)
    (pre : List Bs) (rest x : Bs) (W : World) (hx : x.length < 1100000) (hI : PR w (recOf w fn tmps assign body) pre.length rest W ∧ goodB pre = true) :
    YieldAt Fence.wide n Pg (w.heap.size + 6) #[.string ⟨x.toArray⟩] W fun e W' => (e = .returned (.bool true) ∧ PR w (recOf w fn tmps assign body) (pre ++ [x]).length rest W' ∧ goodB (pre ++ [x]) = true) ∨
      (e = .returned (.bool false) ∧ PS w (recOf w fn tmps assign body) W' ∧ goodB (pre ++ [x]) = false) := by
  obtain ⟨h, hg⟩ := hI
  have hpl : pre.length ≤ 16 := by unfold goodB at hg; simp only [Bool.and_eq_true, decide_eq_true_eq] at hg; exact hg.2
  have hgood : goodB (pre ++ [x]) = true ↔ (pre.length + 1 ≤ 16 ∧ partOk x = true) := by
    unfold goodB at hg ⊢
    simp only [Bool.and_eq_true, decide_eq_true_eq, List.all_append, List.length_append, List.all_cons, List.all_nil, List.length_cons, List.length_nil, Bool.and_true] at hg ⊢
    exact ⟨fun q => ⟨q.2, q.1.2⟩, fun q => ⟨⟨hg.1, q.2⟩, q.1⟩⟩
  refine ⟨fn, tmps.setIfInBounds 10 (.string ⟨x.toArray⟩), assign, body, by simpa [recOf] using run_yield (P := Pg) (args := #[.string ⟨x.toArray⟩]) h.lop rfl, roundIn_of_wpIn trivial ?_⟩
  have hl : w.heap.size + 6 < W.heap.size := (Array.getElem?_eq_some_iff.1 h.lop).1
  have hbr := run_beginRound (P := Pg) h.lop rfl
  obtain ⟨W2, hW2⟩ : ∃ W2, W.putObj (w.heap.size + 6) (.loop { recOf w fn tmps assign body with state := .busy }) = W2 := ⟨_, rfl⟩
  rw [hW2] at hbr
  refine hassign x W _ ⟨W2, hbr, ?_⟩
  have hres : boxAt W2 w.heap.size 4 (.bool false) := by rw [← hW2]; exact box_putObj h.res (by omega)
  have hcnt : boxAt W2 (w.heap.size + 1) 3 (.int .i64 (pre.length : Nat)) := by rw [← hW2]; exact box_putObj h.cnt (by omega)
  have hlop : W2.heap[w.heap.size + 6]? = some (.loop { recOf w fn tmps assign body with state := .busy }) := by rw [← hW2]; exact World.putObj_heap_same hl
  have hsz : W2.heap.size = W.heap.size := by rw [← hW2]; simp
  have hoth : ∀ j, j ≠ w.heap.size + 6 → W2.heap[j]? = W.heap[j]? := fun j hj => by rw [← hW2]; exact World.putObj_heap_other hj
  have hos : W2.os = W.os ∧ W2.tape = W.tape ∧ W2.output = W.output := by rw [← hW2]; exact ⟨rfl, rfl, rfl⟩
  refine Go.wpIn_mono (hbody x pre.length W2 hx (by omega) hres hcnt) fun e a W' he => ?_
  cases e with
  | normal =>
    obtain ⟨q1, q2, q3, q4⟩ := he
    have hl3 : W'.heap[w.heap.size + 6]? = some (.loop { recOf w fn tmps assign body with state := .busy }) := (q2.other _ (by omega) (by omega) (by omega)).trans hlop
    refine ⟨_, _, run_endRound none hl3, .inl ⟨rfl, ?_, hgood.2 q1⟩⟩
    have hk : ∀ j, j < W.heap.size → j ≠ w.heap.size → j ≠ w.heap.size + 1 → j ≠ w.heap.size + 6 → (W'.putObj (w.heap.size + 6) (.loop (recOf w fn tmps assign body))).heap[j]? = W.heap[j]? := fun j h1 h2 h3 h4 =>
      (World.putObj_heap_other h4).trans ((q2.other j (by omega) h2 h3).trans (hoth j h4))
    refine ⟨⟨q2.os.trans (hos.1.trans h.below.os), q2.tape.trans (hos.2.1.trans h.below.tape), q2.output.trans (hos.2.2.trans h.below.output), ?_, fun k hk' => ?_⟩, box_putObj q3 (by omega), ?_, (hk _ (by omega) (by omega) (by omega) (by omega)).trans h.rst, (hk _ (by omega) (by omega) (by omega) (by omega)).trans h.sep, (hk _ (by omega) (by omega) (by omega) (by omega)).trans h.sav,
      (hk _ (by omega) (by omega) (by omega) (by omega)).trans h.dfr, World.putObj_heap_same (by have := q2.size; omega)⟩
    · have := q2.size; have := h.below.size; simp; omega
    · have := h.below.size
      exact (hk k (by omega) (by omega) (by omega) (by omega)).trans (h.below.block k hk')
    · simp only [List.length_append, List.length_cons, List.length_nil]
      exact box_putObj q4 (by omega)
  | ret =>
    obtain ⟨q1, q2, q3⟩ := he
    have hl3 : W'.heap[w.heap.size + 6]? = some (.loop { recOf w fn tmps assign body with state := .busy }) := (q2.other _ (by omega) (by omega) (by omega)).trans hlop
    refine ⟨_, _, run_endRound (some .ret) hl3, .inr ⟨rfl, ?_, by cases hq : goodB (pre ++ [x]) with | false => rfl | true => exact (q1 (hgood.1 hq)).elim⟩⟩
    have hk : ∀ j, j < W.heap.size → j ≠ w.heap.size → j ≠ w.heap.size + 1 → j ≠ w.heap.size + 6 → ∀ o, (W'.putObj (w.heap.size + 6) o).heap[j]? = W.heap[j]? := fun j h1 h2 h3 h4 o =>
      (World.putObj_heap_other h4).trans ((q2.other j (by omega) h2 h3).trans (hoth j h4))
    refine ⟨⟨q2.os.trans (hos.1.trans h.below.os), q2.tape.trans (hos.2.1.trans h.below.tape), q2.output.trans (hos.2.2.trans h.below.output), ?_, fun k hk' => ?_⟩, box_putObj q3 (by omega), (hk _ (by omega) (by omega) (by omega) (by omega) _).trans h.dfr, World.putObj_heap_same (by have := q2.size; omega)⟩
    · have := q2.size; have := h.below.size; simp; omega
    · have := h.below.size
      exact (hk k (by omega) (by omega) (by omega) (by omega) _).trans (h.below.block k hk')
  | _ => exact he.elim

/-- What the loop leaves. -/
structure Left (w : World) (W : World) : Prop where
  below : Below w.heap.size w W
  res : boxAt W w.heap.size 4 (.bool false)
  dfr : W.heap[w.heap.size + 5]? = some (.deferred (some []))

theorem range_parts {Q : Exit → Act → World → Prop} {W0 : World} (hn : 6 ≤ n) (hs : s.length < 1100000) (hg : tmps.getD 9 undef = .func (.func 175) #[] #[.pointer (some ⟨w.heap.size + 3, 0, none⟩), .pointer (some ⟨w.heap.size + 2, 0, none⟩), .pointer (some ⟨w.heap.size + 4, 0, none⟩)])
    (hb0 : Below w.heap.size w W0) (hs0 : W0.heap.size = w.heap.size + 5) (hres : boxAt W0 w.heap.size 4 (.bool false)) (hcnt : boxAt W0 (w.heap.size + 1) 3 (.int .i64 0)) (hrst : boxAt W0 (w.heap.size + 2) 9 (.string ⟨s.toArray⟩)) (hsep : boxAt W0 (w.heap.size + 3) 9 (.string ⟨#[47]⟩)) (hsav : boxAt W0 (w.heap.size + 4) 3 (.int .i64 0))
    (hassign : ∀ (x : Bs) W K, K (A1 x) W → assign.wpIn (Fence.wide.inRound (w.heap.size + 6)) (n - 1 - 1) Pg (Exit.then K (fun _ _ _ => False)) { tmps := tmps.setIfInBounds 10 (.string ⟨x.toArray⟩), defers := [] } W)
    (hbody : ∀ (x : Bs) (k : Nat) W, x.length < 1100000 → k < 1000 → boxAt W w.heap.size 4 (.bool false) → boxAt W (w.heap.size + 1) 3 (.int .i64 k) → body.wpIn (Fence.wide.inRound (w.heap.size + 6)) (n - 1 - 1) Pg (BodyEnd w.heap.size x k W) (A1 x) W)
    (hdone : ∀ W, Left w W → goodB (parts s) = true → Q .normal { tmps, defers := [{ target := .collected (w.heap.size + 5), args := #[] }] } W)
    (hstop : ∀ W, Left w W → goodB (parts s) = false → Code.ret.wpIn Fence.wide n Pg Q { tmps, defers := [{ target := .collected (w.heap.size + 5), args := #[] }] } W) :
    (Code.rangeFunc (.tmp 9) #[10] assign body).wpIn Fence.wide n Pg Q { tmps, defers := [] } W0 := by
  refine wpIn_rangeFunc ?_
  intro fn hfn
  obtain ⟨W1, hW1⟩ : ∃ W1, (W0.alloc (.deferred (some []))).alloc (.loop (recOf w fn tmps assign body)) = W1 := ⟨_, rfl⟩
  have hold : ∀ k, k < W0.heap.size → W1.heap[k]? = W0.heap[k]? := fun k hk => by
    rw [← hW1]; exact (Below.heap_alloc _ _ k (by simp; omega)).trans (Below.heap_alloc _ _ k hk)
  have hs1 : W1.heap.size = w.heap.size + 7 := by rw [← hW1]; simp [hs0]
  have hd1 : W1.heap[w.heap.size + 5]? = some (.deferred (some [])) := by
    rw [← hW1, ← hs0]; exact (Below.heap_alloc _ _ _ (by simp)).trans (World.alloc_heap_new W0 _)
  have hl1 : W1.heap[w.heap.size + 6]? = some (.loop (recOf w fn tmps assign body)) := by
    rw [← hW1]
    have := World.alloc_heap_new (W0.alloc (.deferred (some []))) (.loop (recOf w fn tmps assign body))
    rw [World.size_alloc, hs0] at this
    exact this
  have hb1 : Below w.heap.size w W1 := by
    rw [← hW1]; exact (hb0.alloc (by omega) _).alloc (by simp; omega) _
  have hPR : PR w (recOf w fn tmps assign body) (([] : List Bs).length : Nat) s W1 ∧ goodB [] = true :=
    ⟨⟨hb1, (hold _ (by omega)).trans hres, (hold _ (by omega)).trans hcnt, (hold _ (by omega)).trans hrst, (hold _ (by omega)).trans hsep, (hold _ (by omega)).trans hsav, hd1, hl1⟩, rfl⟩
  have hev : ({ tmps, defers := [] } : Act).eval (.tmp 9) = .func (.func 175) #[] #[.pointer (some ⟨w.heap.size + 3, 0, none⟩), .pointer (some ⟨w.heap.size + 2, 0, none⟩), .pointer (some ⟨w.heap.size + 4, 0, none⟩)] := hg
  refine ⟨w.heap.size + 6, [{ target := .collected (w.heap.size + 5), args := #[] }], W1, { target := .fn (.func 175) #[.pointer (some ⟨w.heap.size + 3, 0, none⟩), .pointer (some ⟨w.heap.size + 2, 0, none⟩), .pointer (some ⟨w.heap.size + 4, 0, none⟩)], args := #[.func (.yield (w.heap.size + 6)) #[] #[]] }, W1, 175,
    #[.func (.yield (w.heap.size + 6)) #[] #[], .pointer (some ⟨w.heap.size + 3, 0, none⟩), .pointer (some ⟨w.heap.size + 2, 0, none⟩), .pointer (some ⟨w.heap.size + 4, 0, none⟩)], W1, ?_, ?_, ?_, ?_, fun _ => by omega, ?_⟩
  · rw [← hW1]
    have := run_enterLoop_outer (P := Pg) (w := W0) fn tmps #[10] assign body
    rw [hs0] at this
    exact this
  · have hg' : tmps[9]?.getD undef = .func (.func 175) #[] #[.pointer (some ⟨w.heap.size + 3, 0, none⟩), .pointer (some ⟨w.heap.size + 2, 0, none⟩), .pointer (some ⟨w.heap.size + 4, 0, none⟩)] := by
      rw [← Array.getD_eq_getD_getElem?]; exact hg
    simp [resolve, go_sem, hg']
  · intro f' _; trivial
  · have e175 : ∀ args w, (callFunc 175 args).run Pg w = .ok (.enter 175 args) w := enters_of Tryz.func175 (by kernel_rfl) rfl
    simp [invoke, e175]
  · refine (split_iter (n - 1) (by omega) (w.heap.size + 6) (w.heap.size + 2) (fun pre rest W => PR w (recOf w fn tmps assign body) pre.length rest W ∧ goodB pre = true) (fun pre W => PS w (recOf w fn tmps assign body) W ∧ goodB pre = false)
      (fun pre rest W h => ⟨h.1.rst, h.1.sep, h.1.sav⟩) (fun pre rest rest' W h => ⟨h.1.set, h.2⟩) (fun pre rest x W hx h => pr_yield hassign hbody pre rest x W hx h) s hs W1 hPR).mono ?_
    rintro e W2 ⟨⟨v, rfl⟩, (⟨rest, h, hgd⟩ | ⟨pre, hpre, h, hgd⟩)⟩
    · have hend := run_endLoop (P := Pg) h.lop (by simp [recOf])
      have hl : w.heap.size + 6 < W2.heap.size := (Array.getElem?_eq_some_iff.1 h.lop).1
      refine ⟨none, _, hend, hdone _ ⟨⟨h.below.os, h.below.tape, h.below.output, by have := h.below.size; simp; omega, fun k hk => (World.putObj_heap_other (by omega)).trans (h.below.block k hk)⟩, box_putObj h.res (by omega), (World.putObj_heap_other (by omega)).trans h.dfr⟩ hgd⟩
    · have hend := run_endLoop (P := Pg) h.lop (by simp)
      refine ⟨some .ret, _, hend, hstop _ ⟨⟨h.below.os, h.below.tape, h.below.output, by have := h.below.size; simp; omega, fun k hk => (World.putObj_heap_other (by omega)).trans (h.below.block k hk)⟩, box_putObj h.res (by omega), (World.putObj_heap_other (by omega)).trans h.dfr⟩ ?_⟩
      cases hq : goodB (parts s) with
      | false => rfl
      | true => rw [goodB_prefix hpre hq] at hgd; cases hgd
end

theorem alloc5 (w : World) (a b c d e : Obj) : (((((w.alloc a).alloc b).alloc c).alloc d).alloc e).heap = w.heap ++ #[a, b, c, d, e] := by
  apply Array.ext'; simp only [World.alloc, Array.toList_push, Array.toList_append, List.append_assoc]; rfl

set_option maxRecDepth 100000 in
set_option maxHeartbeats 4000000 in
theorem pr_in (s : Bs) (hs : s.length < 1100000) (w : World) (n : Nat) (hn : 6 ≤ n) :
    CallsIn Fence.wide n Pg 145 #[.string ⟨s.toArray⟩] w fun e w' => e = .returned (.bool (pathRight s)) ∧ Below w.heap.size w w' := by
  have h1 : 1 ≤ n := by omega
  have h2 : Fence.wide.fn 155 := trivial
  have h3 : Fence.wide.fn 156 := trivial
  have hcon := fun W' => SplitSeq_in (n - 1) ⟨s.toArray⟩ ⟨#[47]⟩ W' (by omega)
  refine callsIn_of_wp_marks Tryz.func145 rfl trivial ?_ rfl
  simp only [Tryz.ntmps145, List.size_toArray, List.length_cons, List.length_nil, Nat.reduceAdd, Nat.reduceSub, Array.replicate_succ, Array.replicate_zero, List.push_toArray, List.append_toArray, List.nil_append, List.cons_append]
  gi_wp2_with (gi_at_call 155; refine (hcon _).mono ?_; rintro e w' ⟨rfl, rfl⟩)
  · rename_i hlen
    have hlong : ¬ s.length ≤ 200 := by omega
    have hpr : pathRight s = false := by simp [pathRight, hlong]
    have hc : (w.alloc (.cells #[.bool false] 4)).cell? ⟨w.heap.size, 0, none⟩ = some (.bool false) := (boxAt.cell (World.alloc_heap_new w _)).1
    refine ⟨.bool false, ?_, by rw [hpr], (Below.refl _ w).alloc (Nat.le_refl _) _⟩
    simp [results, Tryz.f145, go_sem, hc]
  · rename_i hlen
    have hshort : s.length ≤ 200 := by omega
    have hpr : pathRight s = goodB (parts s) := by simp [pathRight, hshort, goodB]
    obtain ⟨W0, hW0⟩ : ∃ W0, ((((w.alloc (.cells #[.bool false] 4)).alloc (.cells #[.int .i64 0] 3)).alloc (.cells #[.string ⟨s.toArray⟩] 9)).alloc (.cells #[.string ⟨#[47]⟩] 9)).alloc (.cells #[.int .i64 0] 3) = W0 := ⟨_, rfl⟩
    have hsz0 : W0.heap.size = w.heap.size + 5 := by rw [← hW0]; simp
    have hh : W0.heap = w.heap ++ #[.cells #[.bool false] 4 (0, 0), .cells #[.int .i64 0] 3 (0, 0), .cells #[.string ⟨s.toArray⟩] 9 (0, 0), .cells #[.string ⟨#[47]⟩] 9 (0, 0), .cells #[.int .i64 0] 3 (0, 0)] := by
      rw [← hW0]; exact alloc5 _ _ _ _ _ _
    have hat : ∀ i, W0.heap[w.heap.size + i]? = #[Obj.cells #[.bool false] 4 (0, 0), .cells #[.int .i64 0] 3 (0, 0), .cells #[.string ⟨s.toArray⟩] 9 (0, 0), .cells #[.string ⟨#[47]⟩] 9 (0, 0), .cells #[.int .i64 0] 3 (0, 0)][i]? := fun i => by
      rw [hh, Array.getElem?_append_right (by omega), Nat.add_sub_cancel_left]
    have g0 : boxAt W0 w.heap.size 4 (.bool false) := hat 0
    have g1 : boxAt W0 (w.heap.size + 1) 3 (.int .i64 0) := hat 1
    have g2 : boxAt W0 (w.heap.size + 2) 9 (.string ⟨s.toArray⟩) := hat 2
    have g3 : boxAt W0 (w.heap.size + 3) 9 (.string ⟨#[47]⟩) := hat 3
    have g4 : boxAt W0 (w.heap.size + 4) 3 (.int .i64 0) := hat 4
    have hb0 : Below w.heap.size w W0 := by
      rw [← hW0]
      exact (((((Below.refl _ w).alloc (Nat.le_refl _) _).alloc (by simp) _).alloc (by simp; omega) _).alloc (by simp; omega) _).alloc (by simp; omega) _
    rw [hW0]
    refine range_parts (w := w) (s := s) (A1 := fun x => { tmps := #[.string ⟨s.toArray⟩, undef, .pointer (some ⟨w.heap.size, 0, none⟩), .pointer (some ⟨w.heap.size + 1, 0, none⟩), .string ⟨x.toArray⟩, .string ⟨s.toArray⟩, .int .i64 s.length, .bool (decide (200 < (s.length : Int))), .string ⟨s.toArray⟩,
        .func (.func 175) #[] #[.pointer (some ⟨w.heap.size + 3, 0, none⟩), .pointer (some ⟨w.heap.size + 2, 0, none⟩), .pointer (some ⟨w.heap.size + 4, 0, none⟩)], .string ⟨x.toArray⟩, undef, undef, undef, undef, undef, undef, undef, undef, undef], defers := [] }) hn hs rfl hb0 hsz0 g0 g1 g2 g3 g4 ?hassign ?hbody ?hdone ?hstop
    case hassign =>
      intro x W K hK
      gi_wp2
      exact hK
    case hbody =>
      intro x k W hx hk hr hc
      obtain ⟨r1, r2⟩ := boxAt.cell hr
      obtain ⟨c1, c2⟩ := boxAt.cell hc
      have hp := fun W' => part_in (n - 1 - 1 - 1) x (by omega) W'
      have h4 : 1 ≤ n - 1 - 1 := by omega
      have hset : boxAt (W.setCell ⟨w.heap.size + 1, 0, none⟩ (.int .i64 ((k : Int) + 1))) w.heap.size 4 (.bool false) := (heap_setCell (by omega)).trans hr
      have hset1 : boxAt (W.setCell ⟨w.heap.size + 1, 0, none⟩ (.int .i64 ((k : Int) + 1))) (w.heap.size + 1) 3 (.int .i64 ((k : Int) + 1)) := box_setCell hc
      obtain ⟨s1, s2⟩ := boxAt.cell hset
      have hk1 : Kept w.heap.size W (W.setCell ⟨w.heap.size + 1, 0, none⟩ (.int .i64 ((k : Int) + 1))) := ⟨rfl, rfl, rfl, by simp [World.setCell], fun j _ _ h => heap_setCell h⟩
      have hlt : w.heap.size + 1 < (W.setCell ⟨w.heap.size + 1, 0, none⟩ (.int .i64 ((k : Int) + 1))).heap.size := box_lt hset1
      have hcast : ((k + 1 : Nat) : Int) = (k : Int) + 1 := by omega
      rcases Nat.lt_or_ge 16 (k + 1) with hk2 | hk2
      · have hki : (16 : Int) < (k : Int) + 1 := by omega
        gi_wp2
        exact ⟨by omega, hk1.set, box_setCell hset⟩
      · have hki : ¬ (16 : Int) < (k : Int) + 1 := by omega
        have hbelow : ∀ w', Below (W.setCell ⟨w.heap.size + 1, 0, none⟩ (.int .i64 ((k : Int) + 1))).heap.size (W.setCell ⟨w.heap.size + 1, 0, none⟩ (.int .i64 ((k : Int) + 1))) w' → Kept w.heap.size W w' ∧ boxAt w' w.heap.size 4 (.bool false) ∧ boxAt w' (w.heap.size + 1) 3 (.int .i64 ((k : Int) + 1)) := fun w' hb =>
          ⟨⟨hb.os.trans hk1.os, hb.tape.trans hk1.tape, hb.output.trans hk1.output, Nat.le_trans hk1.size hb.size, fun j h1 h2 h3 => (hb.block j (Nat.lt_of_lt_of_le h1 hk1.size)).trans (hk1.other j h1 h2 h3)⟩, (hb.block _ (by omega)).trans hset, (hb.block _ hlt).trans hset1⟩
        cases hok : partOk x with
        | false =>
          rw [hok] at hp
          gi_wp2_with (gi_at_call 156; refine (CallsIn.inRound (w.heap.size + 6) (hp _)).mono ?_; rintro e w' ⟨rfl, hb⟩; obtain ⟨t1, t2, t3⟩ := hbelow _ hb; obtain ⟨f1, f2⟩ := boxAt.cell t2)
          exact ⟨by simp [hok], t1.set, box_setCell t2⟩
        | true =>
          rw [hok] at hp
          gi_wp2_with (gi_at_call 156; refine (CallsIn.inRound (w.heap.size + 6) (hp _)).mono ?_; rintro e w' ⟨rfl, hb⟩; obtain ⟨t1, t2, t3⟩ := hbelow _ hb; obtain ⟨f1, f2⟩ := boxAt.cell t2)
          exact ⟨⟨hk2, hok⟩, t1, t2, by rw [hcast]; exact t3⟩
    case hdone =>
      intro W hL hgd
      obtain ⟨f1, f2⟩ := boxAt.cell hL.res
      gi_wp2
      have hK4 : (W.setCell ⟨w.heap.size, 0, none⟩ (.bool true)).heap[w.heap.size + 5]? = some (.deferred (some [])) := (heap_setCell (by omega)).trans hL.dfr
      have hc5 : boxAt ((W.setCell ⟨w.heap.size, 0, none⟩ (.bool true)).putObj (w.heap.size + 5) (.deferred none)) w.heap.size 4 (.bool true) := box_putObj (box_setCell hL.res) (by omega)
      have hc6 := (boxAt.cell hc5).1
      refine ⟨by simp, .inl ⟨_, _, rfl, run_takeDeferred hK4, ?_⟩⟩
      refine ⟨.bool true, ?_, by rw [hpr, hgd], ?_⟩
      · simp [results, Tryz.f145, go_sem, hc6]
      · have hb := hL.below.setCell (p := ⟨w.heap.size, 0, none⟩) (Nat.le_refl _) (.bool true)
        exact ⟨hb.os, hb.tape, hb.output, by have := hb.size; simpa using this, fun k hk => (World.putObj_heap_other (by omega)).trans (hb.block k hk)⟩
    case hstop =>
      intro W hL hgd
      obtain ⟨f1, f2⟩ := boxAt.cell hL.res
      gi_wp2
      have hc5 : boxAt (W.putObj (w.heap.size + 5) (.deferred none)) w.heap.size 4 (.bool false) := box_putObj hL.res (by omega)
      have hc6 := (boxAt.cell hc5).1
      refine ⟨by simp, .inl ⟨_, _, rfl, run_takeDeferred hL.dfr, ?_⟩⟩
      refine ⟨.bool false, ?_, by rw [hpr, hgd], ?_⟩
      · simp [results, Tryz.f145, go_sem, hc6]
      · have hb := hL.below
        exact ⟨hb.os, hb.tape, hb.output, by have := hb.size; simpa using this, fun k hk => (World.putObj_heap_other (by omega)).trans (hb.block k hk)⟩

set_option maxRecDepth 20000 in
theorem b_path_Right : bodied Pg n_path_Right = true := by kernel_rfl
set_option maxRecDepth 20000 in
theorem f_path_Right (s : Bs) (hs : s.length < 1100000) : TCp Pg n_path_Right [.str s] (.bool (pathRight s)) := by
  refine TCp.of_calls (bodied_iff b_path_Right) rfl fun σ cargs hargs => ?_
  obtain ⟨c, d, rfl, h1, h2⟩ := hargs
  have h2 : d = [] := h2
  subst h2
  rw [repV_str.1 h1]
  refine Calls.mono (callsIn_wide.1 (pr_in s hs σ.w 6 (Nat.le_refl _))) ?_
  rintro e w' ⟨rfl, hb⟩
  exact ⟨_, rfl, repV_bool.2 rfl, hb⟩
end Go.Abs
end
