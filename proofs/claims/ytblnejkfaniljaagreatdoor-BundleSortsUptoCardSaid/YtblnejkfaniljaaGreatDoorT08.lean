/-
  Abstract code against the model's: append. Abstract code against the model's: a row that grows. Abstract code against the model's: appends.
  Conditions: those that stand ahead of each theorem; no more.
-/
import Derived.Laws.AppendOwn
import Derived.Test.YtblnejkfaniljaaGreatDoorT07

section
namespace Go.Abs
open Go

section
variable {P : Program} {σ : St} {ρ : Nat → V} {a : Act} {o : Oper} {K : V → HP → Prop}

theorem bytes_cells (s : List UInt8) : RepL σ (bytesV s) (s.map fun (b : UInt8) => Value.int .u8 (b.toNat : Int)) := byteCells_rep s

/-- What is appended, as cells. -/
theorem more_cells (I : Inv σ) {v : V} {X : Value} {ys : List V} (r : RepV σ v X) (h : moreOf σ.H v = some ys) :
    ∃ news, RepL σ ys news ∧ (∀ y ∈ ys, y.shape.size = moreSize v) ∧ (∀ w, (Builtin.lenOf X).run P w = .ok ys.length w) ∧
      ∀ w : World, (∀ b o u, σ.w.cell? ⟨b, o, none⟩ = some u → w.cell? ⟨b, o, none⟩ = some u) → (Builtin.firstCells (moreSize v) ys.length X).run P w = .ok news.toArray w := by
  unfold moreOf at h
  split at h
  · rename_i s
    cases h
    rw [repV_str] at r
    subst r
    refine ⟨_, bytes_cells s, bytesV_size s, fun w => ?_, fun w _ => ?_⟩
    · simp [Builtin.lenOf, bytesV, ByteArray.size]
    · have h1 : (bytesV s).length = (⟨s.toArray⟩ : ByteArray).size := by simp [bytesV, ByteArray.size]
      simp only [Builtin.firstCells, h1, Sem.run_pure]
      congr 1
      have : (⟨s.toArray⟩ : ByteArray).extract 0 (⟨s.toArray⟩ : ByteArray).size = ⟨s.toArray⟩ := ByteArray.extract_zero_size
      rw [this]
      simp
  · rename_i hv
    have hz : moreSize v = slSize v := by cases v <;> first | rfl | (rename_i s; exact (hv s rfl).elim)
    obtain ⟨ad, cap, rfl, h2, h3, h4⟩ := elems_flat I r h
    rw [hz]
    rcases h4 with rfl | ⟨b, o, cs, rfl, h5, h6⟩
    · refine ⟨[], rfl, by simp, fun w => by simp [Builtin.lenOf], fun w _ => ?_⟩
      cases ad with
      | none => simp [Builtin.firstCells]
      | some ad => exact run_firstCells_some w (slSize v) 0 ad _ cap [] (by simp) (by simp)
    · refine ⟨cs, h5, h3, fun w => by simp [Builtin.lenOf], fun w hw => ?_⟩
      exact run_firstCells_some w (slSize v) _ ⟨b, o, none⟩ _ cap cs (RepL.length_const h5 h3) fun j u hj => by rw [Addr.add_none]; exact hw _ _ _ (h6 j u hj)

/-- A run of append, the need within the room. -/
theorem run_append_in {t u e : TypeId} {ty : TypeId} {d : TypeDesc} {sz m : Nat} {base : Option Addr} {n cap : Nat} {X : Value} {news : List Value} (ht : P.underlying t = some (.slice e)) (hu : P.underlying u = some d) (hd : ∀ k, d ≠ .int k) (hs : szIs P e sz = true)
    (hl : ∀ w, (Builtin.lenOf X).run P w = .ok m w) (hn : n + m ≤ cap) {w w' : World} (hf : (Builtin.firstCells sz m X).run P w = .ok news.toArray w)
    (hst : (match base with | some a => storeCells (a.add (n * sz)) news | none => pure ()).run P w = .ok () w') :
    (Builtin.append_ #[t, u] ty #[.slice base n cap, X]).run P w = .ok (.slice base (n + m) cap) w' := by
  have hz : (match d with | .int _ => true | _ => false) = false := by cases d <;> first | rfl | exact (hd _ rfl).elim
  unfold Builtin.append_
  simp only [List.getElem?_toArray, List.getElem?_cons_zero, List.getElem?_cons_succ, Sem.run_bind, run_underlying ht, Result.andThen_ok, run_size hs, run_underlying hu, Sem.run_pure, Bool.false_eq_true, if_false, hl, if_pos hn, Bool.not_false, if_true, hf]
  cases base <;> simp_all

/-- A run of append that makes a new row. -/
theorem run_append_out {t u e : TypeId} {ty : TypeId} {d : TypeDesc} {i : TypeInfo} {z : Value} {sz m : Nat} {base : Option Addr} {n cap : Nat} {X : Value} {olds news : List Value} (ht : P.underlying t = some (.slice e)) (hu : P.underlying u = some d) (hd : ∀ k, d ≠ .int k) (hi : P.info? e = some i) (hz : i.zero = some z) (hsz : i.size = sz)
    (hl : ∀ w, (Builtin.lenOf X).run P w = .ok m w) (hn : cap < n + m) (hb : i.bytes ≠ 0) (hfit : (n + m) * i.bytes ≤ 140737488355328) {w : World} (hf : (Builtin.firstCells sz m X).run P w.drew = .ok news.toArray w.drew)
    (ho : (Builtin.firstCells sz n (.slice base n cap)).run P w.drew = .ok olds.toArray w.drew) :
    (Builtin.append_ #[t, u] ty #[.slice base n cap, X]).run P w = .ok (.slice (some ⟨w.heap.size, 0, none⟩) (n + m) (grownCap w (n + m) cap e))
      { w.drew with heap := w.heap.push (.cells (olds.toArray ++ news.toArray ++ Builtin.zeroCells z.cells (grownCap w (n + m) cap e - (n + m))) e (0, 0)) } := by
  have hzz : (match d with | .int _ => true | _ => false) = false := by cases d <;> first | rfl | exact (hd _ rfl).elim
  have hn' : ¬ (n + m ≤ cap) := by omega
  have h1 : n + m ≤ 140737488355328 := Nat.le_trans (Nat.le_mul_of_pos_right _ (Nat.pos_of_ne_zero hb)) hfit
  have h63 : ¬ (((n + m : Nat) : Int) > IntKind.i64.max) := by show ¬ (((n + m : Nat) : Int) > 9223372036854775807); omega
  have h48 : ¬ (Builtin.nextslicecap (n + m) cap * i.bytes > 2 ^ 48) := by have := growslice_fits hn hfit; omega
  unfold Builtin.append_
  simp only [List.getElem?_toArray, List.getElem?_cons_zero, List.getElem?_cons_succ, Sem.run_bind, run_underlying ht, Result.andThen_ok, sizeOf, run_info hi, hsz, run_underlying hu, Sem.run_pure, Bool.false_eq_true, if_false, hl, if_neg hn', Bool.not_false, if_true, h63, h48, false_and]
  simp [Question.forced, hf, ho, newRow, grownCap, zeroValue, run_info hi, hz]
  generalize Builtin.zeroCells z.cells _ = Z
  have : (olds ++ news).toArray ++ Z = olds.toArray ++ (news.toArray ++ Z) := by apply Array.ext'; simp
  rw [this]
  rfl
end
end Go.Abs
end

section
namespace Go.Abs
open Go

/-- A row moved to a new block. -/
def St.mvrow (σ : St) (w' : World) (t N sz cap : Nat) : St :=
  { w := w', S := fun b o => σ.S b o ∨ (b = σ.w.heap.size ∧ o < N * sz), g := σ.g.put t σ.w.heap.size cap true, H := σ.H.set t (.row N sz) }

/-- A row grown in its place. -/
def St.inrow (σ : St) (w' : World) (t n N sz : Nat) : St :=
  { w := w', S := fun b o => σ.S b o ∨ (b = σ.g.b t ∧ n * sz ≤ o ∧ o < N * sz), g := σ.g, H := σ.H.set t (.row N sz) }

theorem put_ne {g : Ghost} {t b cap : Nat} {live : Bool} {i : Nat} (h : i ≠ t) : (g.put t b cap live).b i = g.b i ∧ (g.put t b cap live).cap i = g.cap i ∧ (g.put t b cap live).live i = g.live i := by
  simp [Ghost.put, h]

theorem put_eq {g : Ghost} {t b cap : Nat} {live : Bool} : (g.put t b cap live).b t = b ∧ (g.put t b cap live).cap t = cap ∧ (g.put t b cap live).live t = live := by
  simp [Ghost.put]

section
variable {σ : St} {w' : World} {t n N sz cap : Nat} {ob : Obj}

theorem set_row {H : HP} {t i : Nat} {x y : Blk} (h : (H.set t x)[i]? = some y) : (i = t ∧ y = x) ∨ (i ≠ t ∧ H[i]? = some y) := by
  rw [List.getElem?_set] at h
  split at h
  · rename_i e
    split at h
    · exact .inl ⟨e.symm, (Option.some.inj h).symm⟩
    · cases h
  · rename_i e
    exact .inr ⟨fun e' => e e'.symm, h⟩

theorem mv_res (_I : Inv σ) (_ht : σ.H[t]? = some (.row n sz)) {i : Nat} (h : Res (σ.mvrow w' t N sz cap) i) : i = t ∨ (i ≠ t ∧ Res σ i) := by
  by_cases e : i = t
  · exact .inl e
  · refine .inr ⟨e, ?_⟩
    unfold Res at h ⊢
    have : (σ.mvrow w' t N sz cap).H[i]? = σ.H[i]? := by simp [St.mvrow, show ¬ t = i from fun e' => e e'.symm]
    rw [this] at h
    cases hy : σ.H[i]? with
    | none => rw [hy] at h; exact h
    | some y =>
      rw [hy] at h
      cases y with
      | row n sz => have := (put_ne (g := σ.g) (b := σ.w.heap.size) (cap := cap) (live := true) e).2.2; dsimp only [St.mvrow] at h ⊢; rw [this] at h; exact h
      | _ => exact h

theorem St.mvrow_tr (I : Inv σ) (ht : σ.H[t]? = some (.row n sz)) (hn : n < N) (hw : w'.heap = σ.w.heap.push ob) (h1 : w'.os = σ.w.os) (h2 : w'.tape = σ.w.tape) (h3 : w'.output = σ.w.output) (k : Nat) : Tr k σ (σ.mvrow w' t N sz cap) := by
  have hlt := (List.getElem?_eq_some_iff.1 ht).1
  refine ⟨h1, h2, h3, ?_, ?_, fun b o h => .inl h, ?_, ?_, ?_, ?_, ?_, ?_, ?_⟩
  · show _ ≤ w'.heap.size; rw [hw]; simp
  · intro b hb _
    show w'.heap[b]? = _
    rw [hw, Array.getElem?_push, if_neg (by omega)]
  · intro b o v hs hv; exact cell_of_heap (fun y hy => heap_push hw hy) hv
  · intro b es c hs hv; exact heap_push hw hv
  · intro b o hb _ hs
    rcases hs with hs | ⟨rfl, _⟩
    · exact hs
    · omega
  · intro i hi
    rcases mv_res I ht hi with rfl | ⟨h4, h5⟩
    · exact .inr (by show _ ≤ (σ.g.put _ _ _ _).b _; rw [put_eq.1]; exact Nat.le_refl _)
    · exact .inl ⟨i, h5, (put_ne h4).1.symm⟩
  · intro i v _ hv
    have e : i ≠ t := fun e => by rw [e, ht] at hv; cases hv
    exact ⟨v, by simp [St.mvrow, show ¬ t = i from fun e' => e e'.symm]; exact hv, rfl, (put_ne e).1⟩
  · intro i ks vs _ hv
    have e : i ≠ t := fun e => by rw [e, ht] at hv; cases hv
    exact ⟨ks, vs, by simp [St.mvrow, show ¬ t = i from fun e' => e e'.symm]; exact hv, (put_ne e).1⟩
  · intro i m sz' _ hv
    by_cases e : i = t
    · subst e
      rw [ht] at hv
      cases hv
      exact ⟨N, by simp [St.mvrow, hlt], .inl hn⟩
    · exact ⟨m, by simp [St.mvrow, show ¬ t = i from fun e' => e e'.symm]; exact hv, .inr ⟨rfl, put_ne e⟩⟩

theorem St.mvrow_inv {e : TypeId} {c : Array Value} (I : Inv σ) (ht : σ.H[t]? = some (.row n sz)) (hn : n < N) (hw : w'.heap = σ.w.heap.push (.cells c e (0, 0))) (h1 : w'.os = σ.w.os) (h2 : w'.tape = σ.w.tape) (h3 : w'.output = σ.w.output)
    (hc : c.size = cap * sz) (hN : N ≤ cap) : Inv (σ.mvrow w' t N sz cap) := by
  have hle := (St.mvrow_tr (cap := cap) I ht hn hw h1 h2 h3 σ.H.length).le
  refine ⟨?_, ?_, ?_⟩
  · intro b o h
    show b < w'.heap.size
    rw [hw]; simp only [Array.size_push]
    rcases h with h | ⟨rfl, _⟩
    · have := I.bound b o h; omega
    · omega
  · intro i y hy
    rcases set_row (show (σ.H.set t (.row N sz))[i]? = some y from hy) with ⟨rfl, rfl⟩ | ⟨h4, h5⟩
    · intro _
      have hp := put_eq (g := σ.g) (t := i) (b := σ.w.heap.size) (cap := cap) (live := true)
      refine ⟨c, e, (0, 0), ?_, fun o _ h => by simp at h, ?_, ?_, fun o => ?_⟩
      · show w'.heap[(σ.g.put _ _ _ _).b i]? = _
        rw [hp.1, hw]; simp
      · show c.size = (σ.g.put _ _ _ _).cap i * sz
        rw [hp.2.1, hc]
      · show N ≤ (σ.g.put _ _ _ _).cap i
        rw [hp.2.1]; exact hN
      · show (σ.S ((σ.g.put _ _ _ _).b i) o ∨ _) ↔ _
        rw [hp.1]
        constructor
        · rintro (h | ⟨_, h⟩)
          · have := I.bound _ _ h; omega
          · exact h
        · exact fun h => .inr ⟨hp.1, h⟩
    · refine BlkOk.keep hle (put_ne h4) (fun o ho => heap_push hw ho) ?_ (I.blk i y h5)
      intro z hz o
      have hb := (Array.getElem?_eq_some_iff.1 hz).1
      constructor
      · rintro (h | ⟨h, _⟩)
        · exact h
        · omega
      · exact .inl
  · intro i j hi hj hij
    have hp := put_eq (g := σ.g) (t := t) (b := σ.w.heap.size) (cap := cap) (live := true)
    rcases mv_res I ht hi with rfl | ⟨h4, h5⟩ <;> rcases mv_res I ht hj with rfl | ⟨h6, h7⟩
    · rfl
    · have := Res.lt I h7
      have e1 : (σ.g.put i σ.w.heap.size cap true).b i = (σ.g.put i σ.w.heap.size cap true).b j := hij
      rw [hp.1, (put_ne h6).1] at e1; omega
    · have := Res.lt I h5
      have e1 : (σ.g.put j σ.w.heap.size cap true).b i = (σ.g.put j σ.w.heap.size cap true).b j := hij
      rw [hp.1, (put_ne h4).1] at e1; omega
    · have e1 : (σ.g.put t σ.w.heap.size cap true).b i = (σ.g.put t σ.w.heap.size cap true).b j := hij
      rw [(put_ne h4).1, (put_ne h6).1] at e1
      exact I.inj i j h5 h7 e1

theorem in_res (ht : σ.H[t]? = some (.row n sz)) (i : Nat) : Res (σ.inrow w' t n N sz) i ↔ Res σ i := by
  have hlt := (List.getElem?_eq_some_iff.1 ht).1
  unfold Res
  by_cases e : i = t
  · subst e
    rw [ht]
    have : (σ.inrow w' i n N sz).H[i]? = some (.row N sz) := by simp [St.inrow, hlt]
    rw [this]; rfl
  · have : (σ.inrow w' t n N sz).H[i]? = σ.H[i]? := by simp [St.inrow, show ¬ t = i from fun e' => e e'.symm]
    rw [this]; rfl

structure InRow (σ : St) (w' : World) (t n sz : Nat) : Prop where
  os : w'.os = σ.w.os
  tape : w'.tape = σ.w.tape
  output : w'.output = σ.w.output
  size : w'.heap.size = σ.w.heap.size
  other : ∀ b, b ≠ σ.g.b t → w'.heap[b]? = σ.w.heap[b]?
  low : ∀ o v, o < n * sz → σ.w.cell? ⟨σ.g.b t, o, none⟩ = some v → w'.cell? ⟨σ.g.b t, o, none⟩ = some v

theorem St.inrow_tr (I : Inv σ) (ht : σ.H[t]? = some (.row n sz)) (hl : σ.g.live t = true) (hn : n < N) (hw : InRow σ w' t n sz) (k : Nat) : Tr k σ (σ.inrow w' t n N sz) := by
  have hlt := (List.getElem?_eq_some_iff.1 ht).1
  obtain ⟨c, e, fr, b1, b2, b3, b4, b5⟩ := I.blk t _ ht hl
  have hres : Res σ t := by unfold Res; rw [ht]; exact hl
  refine ⟨hw.os, hw.tape, hw.output, by show _ ≤ w'.heap.size; rw [hw.size]; exact Nat.le_refl _, ?_, fun b o h => .inl h, ?_, ?_, ?_, fun i hi => .inl ⟨i, (in_res ht i).1 hi, rfl⟩, ?_, ?_, ?_⟩
  · intro b _ hno; exact hw.other b fun h => hno t hres h.symm
  · intro b o v hs hv
    by_cases h : b = σ.g.b t
    · subst h; exact hw.low o v ((b5 o).1 hs) hv
    · exact cell_of_heap (w := σ.w) (w' := w') (fun z hz => by rw [hw.other b h]; exact hz) hv
  · intro b es c' hs hv
    show w'.heap[b]? = _
    rw [hw.other b (fun h => by rw [h, b1] at hv; cases hv)]; exact hv
  · intro b o hb hno hs
    rcases hs with hs | ⟨h, _⟩
    · exact hs
    · exact (hno t hres h.symm).elim
  · intro i v _ hv
    have e : i ≠ t := fun e => by rw [e, ht] at hv; cases hv
    exact ⟨v, by simp [St.inrow, show ¬ t = i from fun e' => e e'.symm]; exact hv, rfl, rfl⟩
  · intro i ks vs _ hv
    have e : i ≠ t := fun e => by rw [e, ht] at hv; cases hv
    exact ⟨ks, vs, by simp [St.inrow, show ¬ t = i from fun e' => e e'.symm]; exact hv, rfl⟩
  · intro i m sz' _ hv
    by_cases e : i = t
    · subst e
      rw [ht] at hv
      cases hv
      exact ⟨N, by simp [St.inrow, hlt], .inl hn⟩
    · exact ⟨m, by simp [St.inrow, show ¬ t = i from fun e' => e e'.symm]; exact hv, .inr ⟨rfl, rfl, rfl, rfl⟩⟩

theorem St.inrow_inv {e : TypeId} {c c' : Array Value} {fr : Nat × Nat} (I : Inv σ) (ht : σ.H[t]? = some (.row n sz)) (hl : σ.g.live t = true) (hn : n < N) (hw : InRow σ w' t n sz)
    (hb : σ.w.heap[σ.g.b t]? = some (.cells c e fr)) (hb' : w'.heap[σ.g.b t]? = some (.cells c' e fr)) (hc : c'.size = c.size) (hN : N ≤ σ.g.cap t) : Inv (σ.inrow w' t n N sz) := by
  have hle := (St.inrow_tr I ht hl hn hw σ.H.length).le
  obtain ⟨c0, e0, fr0, b1, b2, b3, b4, b5⟩ := I.blk t _ ht hl
  rw [hb] at b1
  cases b1
  have hres : Res σ t := by unfold Res; rw [ht]; exact hl
  refine ⟨?_, ?_, fun i j hi hj e => I.inj i j ((in_res ht i).1 hi) ((in_res ht j).1 hj) e⟩
  · intro b o h
    show b < w'.heap.size
    rw [hw.size]
    rcases h with h | ⟨rfl, _⟩
    · exact I.bound b o h
    · exact (Array.getElem?_eq_some_iff.1 hb).1
  · intro i y hy
    rcases set_row (show (σ.H.set t (.row N sz))[i]? = some y from hy) with ⟨rfl, rfl⟩ | ⟨h4, h5⟩
    · intro _
      refine ⟨c', e, fr, hb', fun o ho => b2 o (by omega), by rw [hc, b3]; rfl, hN, fun o => ?_⟩
      show (σ.S (σ.g.b i) o ∨ _) ↔ _
      rw [b5]
      have := Nat.mul_le_mul_right sz (Nat.le_of_lt hn)
      constructor
      · rintro (h | ⟨_, _, h⟩) <;> omega
      · intro h
        by_cases h' : o < n * sz
        · exact .inl h'
        · exact .inr ⟨rfl, by omega, h⟩
    · by_cases hri : Res σ i
      · have hne : σ.g.b i ≠ σ.g.b t := fun h => h4 (I.inj i t hri hres h)
        refine BlkOk.keep hle ⟨rfl, rfl, rfl⟩ (fun o ho => ?_) (fun _ _ o => ?_) (I.blk i y h5)
        · show w'.heap[_]? = _
          rw [hw.other _ hne]; exact ho
        · constructor
          · rintro (h | ⟨h, _⟩)
            · exact h
            · exact (hne h).elim
          · exact .inl
      · unfold Res at hri
        rw [h5] at hri
        cases y with
        | cell => exact (hri trivial).elim
        | map => exact (hri trivial).elim
        | row n sz => intro hl; exact (hri hl).elim
        | dead => trivial
end
end Go.Abs
end

section
namespace Go.Abs
open Go

theorem zeroCells_size (z : Array Value) (n : Nat) : (Builtin.zeroCells z n).size = n * z.size := by simp [Builtin.zeroCells]

section
variable {P : Program} {σ : St} {ρ : Nat → V} {a : Act} {o : Oper} {K : V → HP → Prop}

theorem row_out {sz bytes t : Nat} {xs ys : List V} {X : Value} {base : Option Addr} {cap m : Nat} {tt u e : TypeId} {ty : TypeId} {d : TypeDesc} {i : TypeInfo} {z : Value} {olds news : List Value}
    (h1 : P.underlying tt = some (.slice e)) (hu : P.underlying u = some d) (hd : ∀ k, d ≠ .int k) (hi : P.info? e = some i) (hz : i.zero = some z) (hsz : i.size = sz) (hb : i.bytes = bytes) (hb0 : bytes ≠ 0) (hzs : z.cells.size = sz)
    (I : Inv σ) (ht : σ.H[t]? = some (.row xs.length sz)) (hm : m = ys.length) (hcap : cap < xs.length + m) (hy : 0 < m)
    (n1 : RepL σ ys news) (n2 : ∀ y ∈ ys, y.shape.size = sz) (n3 : ∀ w, (Builtin.lenOf X).run P w = .ok m w) (n4 : (Builtin.firstCells sz m X).run P σ.w.drew = .ok news.toArray σ.w.drew)
    (o1 : RepL σ xs olds) (o2 : ∀ x ∈ xs, x.shape.size = sz) (o4 : (Builtin.firstCells sz xs.length (.slice base xs.length cap)).run P σ.w.drew = .ok olds.toArray σ.w.drew)
    (hfit : (xs.length + m) * bytes ≤ 140737488355328) (hK : K (.sl sz (xs ++ ys) (.row t)) (σ.H.set t (.row (xs.length + m) sz))) :
    ∃ cv σ', (Builtin.append_ #[tt, u] ty #[.slice base xs.length cap, X]).run P σ.w = .ok cv σ'.w ∧ Inv σ' ∧ RepV σ' (.sl sz (xs ++ ys) (.row t)) cv ∧ Tr σ.H.length σ σ' ∧ K (.sl sz (xs ++ ys) (.row t)) σ'.H := by
  have hlt := (List.getElem?_eq_some_iff.1 ht).1
  have hrun := run_append_out (ty := ty) h1 hu hd hi hz hsz n3 hcap (by rw [hb]; exact hb0) (by rw [hb]; exact hfit) n4 o4
  have hnc : xs.length + m ≤ grownCap σ.w (xs.length + m) cap e := grownCap_ge _ _ _ _
  revert hrun hnc
  generalize grownCap σ.w (xs.length + m) cap e = nc
  intro hrun hnc
  have hol : olds.length = xs.length * sz := RepL.length_const o1 o2
  have hnl : news.length = m * sz := by rw [hm]; exact RepL.length_const n1 n2
  let cells := olds.toArray ++ news.toArray ++ Builtin.zeroCells z.cells (nc - (xs.length + m))
  let w' : World := { σ.w.drew with heap := σ.w.heap.push (.cells cells e (0, 0)) }
  have hcs : cells.size = nc * sz := by
    simp only [cells, Array.size_append, zeroCells_size, List.size_toArray, hol, hnl, hzs]
    rw [← Nat.add_mul, ← Nat.add_mul]; congr 1; omega
  have hn : xs.length < xs.length + m := by omega
  have htr := St.mvrow_tr (σ := σ) (w' := w') (cap := nc) (k := σ.H.length) I ht hn rfl rfl rfl rfl
  have hinv := St.mvrow_inv (σ := σ) (w' := w') (cap := nc) I ht hn rfl rfl rfl rfl hcs hnc
  have hp := put_eq (g := σ.g) (t := t) (b := σ.w.heap.size) (cap := nc) (live := true)
  refine ⟨_, St.mvrow σ w' t (xs.length + m) sz nc, hrun, hinv, ?_, htr, hK⟩
  refine repV_sl.2 ⟨some ⟨σ.w.heap.size, 0, none⟩, nc, by simp [hm], by simp; omega, ⟨xs.length + m, by simp [St.mvrow, hlt], by simp; omega, fun _ => ?_⟩, .inr ⟨σ.w.heap.size, 0, rfl, ?_⟩⟩
  · show if (σ.g.put _ _ _ _).live t then _ = some (⟨(σ.g.put _ _ _ _).b t, 0, none⟩ : Addr) ∧ nc = (σ.g.put _ _ _ _).cap t else _
    rw [hp.1, hp.2.1, hp.2.2]
    exact ⟨rfl, rfl⟩
  · refine RepE.mk (cs := olds ++ news) (fun x hx => ?_) (RepL.mono htr.le _ _ (RepL.append o1 n1)) fun k hk => ⟨.inr ⟨rfl, ?_⟩, ?_⟩
    · rcases List.mem_append.1 hx with hx | hx
      · exact o2 x hx
      · exact n2 x hx
    · rw [Nat.add_mul, ← hol, ← hnl]; simpa using hk
    · have hbk : (St.mvrow σ w' t (xs.length + m) sz nc).w.heap[σ.w.heap.size]? = some (.cells cells e (0, 0)) := by
        show w'.heap[_]? = _
        simp [w']
      rw [cell_heap hbk]
      have : cells = (olds ++ news).toArray ++ Builtin.zeroCells z.cells (nc - (xs.length + m)) := by apply Array.ext'; simp [cells]
      rw [this, Array.getElem?_append_left (by simpa using hk)]
      simp

theorem row_append {sz bytes t : Nat} {xs ys : List V} {v : V} {S X : Value} {tt u e : TypeId} {ty : TypeId} {d : TypeDesc} {i : TypeInfo} {z : Value}
    (h1 : P.underlying tt = some (.slice e)) (hu : P.underlying u = some d) (hd : ∀ k, d ≠ .int k) (hi : P.info? e = some i) (hz : i.zero = some z) (hsz : i.size = sz) (hb : i.bytes = bytes) (hb0 : bytes ≠ 0) (hzs : z.cells.size = sz)
    (I : Inv σ) (ht : σ.H[t]? = some (.row xs.length sz)) (rs : RepV σ (.sl sz xs (.row t)) S) (rx : RepV σ v X) (hm : moreOf σ.H v = some ys) (hms : moreSize v = sz) (hfit : (xs.length + ys.length) * bytes ≤ 140737488355328)
    (hK : K (.sl sz (xs ++ ys) (.row t)) (σ.H.set t (.row (xs.length + ys.length) sz))) :
    ∃ cv σ', (Builtin.append_ #[tt, u] ty #[S, X]).run P σ.w = .ok cv σ'.w ∧ Inv σ' ∧ RepV σ' (.sl sz (xs ++ ys) (.row t)) cv ∧ Tr σ.H.length σ σ' ∧ K (.sl sz (xs ++ ys) (.row t)) σ'.H := by
  obtain ⟨base, cap, rfl, g2, ⟨m, g3, g4, g5⟩, g6⟩ := repV_sl.1 rs
  rw [ht] at g3
  cases g3
  have g5 := g5 rfl
  obtain ⟨news, n1, n2, n3, n4⟩ := more_cells I rx hm
  rw [hms] at n2 n4
  have hlt := (List.getElem?_eq_some_iff.1 ht).1
  have hs : szIs P e sz = true := by simp [szIs, hi, hsz]
  have hnl : news.length = ys.length * sz := RepL.length_const n1 n2
  rcases Nat.eq_zero_or_pos ys.length with h0 | h0
  · have : ys = [] := List.length_eq_zero_iff.1 h0
    subst this
    have hne : news = [] := n1
    subst hne
    refine ⟨.slice base xs.length cap, σ, ?_, I, by rw [List.append_nil]; exact rs, Tr.refl _ _, ?_⟩
    · exact run_append_in (m := 0) h1 hu hd hs n3 (by omega) (n4 σ.w fun _ _ _ h => h) (by cases base <;> simp [storeCells])
    · have : σ.H.set t (.row (xs.length + ([] : List V).length) sz) = σ.H := by
        apply List.ext_getElem?
        intro j
        rw [List.getElem?_set]
        split
        · rename_i e
          subst e
          rw [ht]
          simp
        · rfl
      rw [this] at hK; exact hK
  · by_cases hcap : cap < xs.length + ys.length
    · have hold : ∃ olds, RepL σ xs olds ∧ (∀ x ∈ xs, x.shape.size = sz) ∧ (Builtin.firstCells sz xs.length (.slice base xs.length cap)).run P σ.w.drew = .ok olds.toArray σ.w.drew := by
        rcases g6 with rfl | ⟨b, o, rfl, hE⟩
        · refine ⟨[], rfl, by simp, ?_⟩
          cases base with
          | none => simp [Builtin.firstCells]
          | some ad => exact run_firstCells_some _ sz 0 ad _ cap [] (by simp) (by simp)
        · obtain ⟨q1, cs, q2, q3⟩ := hE.flat
          refine ⟨cs, q2, q1, run_firstCells_some _ sz _ ⟨b, o, none⟩ _ cap cs (RepL.length_const q2 q1) fun j u hj => ?_⟩
          rw [Addr.add_none]; exact has_get q3 j u hj
      obtain ⟨olds, o1, o2, o4⟩ := hold
      exact row_out h1 hu hd hi hz hsz hb hb0 hzs I ht rfl hcap h0 n1 n2 n3 (n4 σ.w.drew fun _ _ _ h => h) o1 o2 o4 hfit hK
    · have hlive : σ.g.live t = true := by
        cases hl : σ.g.live t with
        | true => rfl
        | false => rw [hl] at g5; simp at g5; omega
      rw [hlive] at g5
      simp only [if_true] at g5
      obtain ⟨rfl, rfl⟩ := g5
      obtain ⟨c, e', fr, b1, b2, b3, b4, b5⟩ := I.blk t _ ht hlive
      have hle : xs.length * sz + 0 + news.length ≤ c.size := by
        rw [b3, hnl]
        have := Nat.mul_le_mul_right sz (show xs.length + ys.length ≤ σ.g.cap t by omega)
        rw [Nat.add_mul] at this
        omega
      obtain ⟨w', q1, q2, q3, q4, q5, q6, cur', q7, q8⟩ := run_storeCells (P := P) news (xs.length * sz) 0 c σ.w b1 b2 hle (RepL.one n1)
      have hn : xs.length < xs.length + ys.length := by omega
      have hw : InRow σ w' t xs.length sz := ⟨q2, q3, q4, q5, q6, fun o v ho hv => by
        rw [cell_heap b1] at hv
        rw [cell_heap q7, ← Array.getElem?_toList, q8, List.append_assoc, List.getElem?_append_left (by simp at hle ⊢; omega), List.getElem?_take, if_pos (by omega), Array.getElem?_toList]
        exact hv⟩
      have hsz' : cur'.size = c.size := by
        have := congrArg List.length q8
        simp at this hle
        omega
      have htr := St.inrow_tr I ht hlive hn hw σ.H.length
      have hinv := St.inrow_inv I ht hlive hn hw b1 q7 hsz' (by omega)
      refine ⟨_, St.inrow σ w' t xs.length (xs.length + ys.length) sz, run_append_in (ty := ty) h1 hu hd hs n3 (by omega) (n4 σ.w fun _ _ _ h => h) (by show (storeCells (Addr.add ⟨σ.g.b t, 0, none⟩ (xs.length * sz)) news).run P σ.w = .ok () w'; rw [Addr.add_none, Nat.zero_add]; simpa using q1), hinv, ?_, htr, hK⟩
      refine repV_sl.2 ⟨some ⟨σ.g.b t, 0, none⟩, σ.g.cap t, by simp, by simp; omega, ⟨xs.length + ys.length, by simp [St.inrow, hlt], by simp, fun _ => ?_⟩, .inr ⟨σ.g.b t, 0, rfl, ?_⟩⟩
      · show if σ.g.live t then _ else _
        rw [hlive]; exact ⟨rfl, rfl⟩
      · have hold : ∃ olds, RepL σ xs olds ∧ (∀ x ∈ xs, x.shape.size = sz) ∧ olds = c.toList.take (xs.length * sz) := by
          rcases g6 with rfl | ⟨b, o, he, hE⟩
          · exact ⟨[], rfl, by simp, by simp⟩
          · cases he
            obtain ⟨r1, cs, r2, r3⟩ := hE.flat
            refine ⟨cs, r2, r1, ?_⟩
            have hl := RepL.length_const r2 r1
            apply List.ext_getElem?
            intro j
            rw [List.getElem?_take]
            split
            · rename_i hj
              have hj' : j < cs.length := by omega
              have := (r3 j hj').2
              rw [cell_heap b1] at this
              rw [List.getElem?_eq_getElem hj', ← this]
              simp
            · rw [List.getElem?_eq_none (by omega)]
        obtain ⟨olds, o1, o2, o3⟩ := hold
        have hol := RepL.length_const o1 o2
        refine RepE.mk (cs := olds ++ news) (fun x hx => ?_) (RepL.mono htr.le _ _ (RepL.append o1 n1)) fun k hk => ⟨?_, ?_⟩
        · rcases List.mem_append.1 hx with hx | hx
          · exact o2 x hx
          · exact n2 x hx
        · have hk' : k < (xs.length + ys.length) * sz := by rw [Nat.add_mul, ← hol, ← hnl]; simpa using hk
          by_cases h' : k < xs.length * sz
          · exact .inl ((b5 _).2 (by simpa using h'))
          · exact .inr ⟨rfl, by omega, by omega⟩
        · show w'.cell? _ = _
          rw [cell_heap q7, ← Array.getElem?_toList, q8]
          simp only [Nat.zero_add, Nat.add_zero]
          rw [← o3, List.getElem?_append_left hk, List.getElem?_eq_getElem hk]

theorem hasZero_spec {t e : TypeId} (hu : P.underlying t = some (.slice e)) (h : hasZero P t = true) : ∃ i z, P.info? e = some i ∧ i.zero = some z ∧ z.cells.size = i.size := by
  unfold hasZero at h
  rw [hu] at h
  dsimp only at h
  split at h
  · rename_i i hi
    split at h
    · rename_i z hz
      exact ⟨i, z, hi, hz, by simpa using h⟩
    · cases h
  · cases h

theorem eff_append {sz bytes : Nat} {x y : Opd} (hk : chkEff P o.op (.append sz bytes x y) = true) (I : Inv σ) (hf : RepF σ ρ a) (ht : there ρ [x, y] = true) (he : eve (.append sz bytes x y) (val ρ) σ.H K) : Does P (execOp a.eval o) σ K := by
  simp only [there_cons] at ht
  cases ho : o.op <;> simp only [ho, chkEff] at hk <;> first | (cases hk; done) | skip
  rename_i cl
  split at hk <;> first | (cases hk; done) | skip
  rename_i args tys hcl
  cases hcl
  split at hk <;> first | (cases hk; done) | skip
  rename_i a1 a2 t u ha hty
  simp only [Bool.and_eq_true, bne_iff_ne, ne_eq] at hk
  obtain ⟨⟨⟨⟨⟨⟨k1, k2⟩, k3⟩, k4⟩, k5⟩, k6⟩, k7⟩ := hk
  have ha' : args = #[a1, a2] := by apply Array.ext'; simpa using ha
  have hty' : tys = #[t, u] := by apply Array.ext'; simpa using hty
  subst ha'; subst hty'
  obtain ⟨e, hu, hs⟩ := sliceOf_spec k3
  obtain ⟨i, z, hi, hz, hzs⟩ := hasZero_spec hu k5
  obtain ⟨d, hd, hdi⟩ := isDesc_spec k7
  have hsz : i.size = sz := by simpa [szIs, hi] using hs
  have hbt : i.bytes = bytes := by simpa [bytesOf, hu, bytesIs, hi] using k4
  have hd' : ∀ k, d ≠ .int k := by rintro k rfl; simp at hdi
  have r1 := opd_rep hf k1 ht.1
  have r2 := opd_rep hf k2 ht.2.1
  simp only [eve] at he
  split at he
  · rename_i sz' xs tk e1
    rw [e1] at r1
    split at he
    · rename_i ys hm
      obtain ⟨rfl, hms, hfit, he⟩ := he
      have hfin : ∀ {σ1 : St}, Tr σ.H.length σ σ1 → (∃ cv σ', (Builtin.append_ #[t, u] o.type #[a.eval a1, a.eval a2]).run P σ.w = .ok cv σ'.w ∧ Inv σ' ∧ (∃ v, RepV σ' v cv ∧ K v σ'.H) ∧ Tr σ1.H.length σ1 σ') → σ.H.length ≤ σ1.H.length → Does P (execOp a.eval o) σ K := by
        rintro σ1 h1 ⟨cv, σ', h2, h3, ⟨v, h4, h5⟩, h6⟩ hlen
        refine ⟨v, cv, σ', .inl ?_, h3, h4, h1.trans (h6.mono hlen), h5⟩
        simp only [execOp, ho, resolve, invoke, builtin, Sem.run_bind, Sem.run_pure, Result.andThen_ok, List.map_toArray, List.map_cons, List.map_nil, h2]
      cases tk with
      | view => exact he.elim
      | row t' =>
        obtain ⟨g1, g2⟩ := he
        obtain ⟨cv, σ', h1, h2, h3, h4, h5⟩ := row_append (ty := o.type) hu hd hd' hi hz hsz hbt k6 (hzs.trans hsz) I g1 r1 r2 hm hms hfit g2
        exact hfin (Tr.refl _ σ) ⟨cv, σ', h1, h2, ⟨_, h3, h5⟩, h4⟩ (Nat.le_refl _)
      | full =>
        have htr := σ.ext0_tr (.row xs.length sz') 0 0 ⟨_, _, rfl⟩
        have hI := σ.ext0_inv I xs.length sz' 0 0
        let σ1 : St := { σ with g := σ.g.put σ.H.length 0 0 false, H := σ.H ++ [.row xs.length sz'] }
        have hle : Le σ σ1 := htr.le
        have r1' : RepV σ1 (.sl sz' xs (.row σ.H.length)) (a.eval a1) := by
          obtain ⟨base, cap, q1, q2, q3, q4⟩ := repV_sl.1 (RepV.mono hle _ _ r1)
          have q3 : cap = xs.length := q3
          refine repV_sl.2 ⟨base, cap, q1, q2, ⟨xs.length, by simp [σ1], Nat.le_refl _, fun _ => ?_⟩, q4⟩
          show if (σ.g.put σ.H.length 0 0 false).live σ.H.length then _ else _
          rw [put_eq.2.2]; exact q3
        have hm' : moreOf σ1.H (val ρ y) = some ys := by
          revert hm
          unfold moreOf elems
          cases val ρ y <;> simp
          rename_i t' p off len sz''
          cases hh : σ.H[t']? with
          | none => simp
          | some b => rw [show σ1.H[t']? = some b from getElem?_snoc_old hh]; exact id
        obtain ⟨cv, σ', h1, h2, h3, h4, h5⟩ := row_append (ty := o.type) hu hd hd' hi hz hsz hbt k6 (hzs.trans hsz) hI (by simp) r1' (RepV.mono hle _ _ r2) hm' hms hfit (by simpa [σ1] using he)
        exact hfin htr ⟨cv, σ', h1, h2, ⟨_, h3, h5⟩, h4⟩ (by simp)
    · exact he.elim
  · exact he.elim
end
end Go.Abs
end
