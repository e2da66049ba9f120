/-
  Abstract code against the model's: pure operations, the last part: what is built, maps read. Abstract code against the model's: pure operations that make memory nobody writes; maps read.
  Conditions: those that stand ahead of each theorem; no more.
-/
import Derived.Laws.Tables
import Derived.Test.YtblnejkfaniljaaGreatDoorT05

section
namespace Go.Abs
open Go

theorem foldl_splice : ∀ (v : List Value) (k : Nat) (cs : Array Value), k + v.length ≤ cs.size →
    ((v.zipIdx k).foldl (fun cs (x : Value × Nat) => cs.setIfInBounds x.2 x.1) cs).toList = cs.toList.take k ++ v ++ cs.toList.drop (k + v.length)
  | [], k, cs, h => by simp
  | x :: v, k, cs, h => by
    simp only [List.length_cons] at h
    simp only [List.zipIdx_cons, List.foldl_cons]
    rw [foldl_splice v (k + 1) _ (by simp; omega)]
    apply List.ext_getElem?
    intro i
    simp only [Array.toList_setIfInBounds, List.append_assoc, List.length_cons]
    simp only [List.getElem?_append, List.length_take, List.length_set, Array.length_toList, List.getElem?_take, List.getElem?_set, List.getElem?_drop, List.length_cons, List.getElem?_cons]
    repeat' split
    all_goals first | rfl | omega | (congr 1; omega) | skip

theorem RepL.set {σ : St} : ∀ {xs : List V} {cs c : List Value} {i : Nat} {z x : V}, RepL σ xs cs → xs[i]? = some z → RepC σ x c → x.shape.size = z.shape.size →
    RepL σ (xs.set i x) (cs.take (Sh.sizeL (V.shapeL (xs.take i))) ++ c ++ cs.drop (Sh.sizeL (V.shapeL (xs.take i)) + c.length))
  | [], _, _, _, _, _, _, h, _, _ => by simp at h
  | y :: ys, _, c, 0, z, x, ⟨c1, d1, rfl, h1, h2⟩, hz, hc, hs => by
    have : y = z := by simpa using hz
    subst this
    have e : c.length = c1.length := by rw [RepC.length x c hc, RepC.length y c1 h1, hs]
    simp only [List.set_cons_zero, List.take_zero, V.shapeL, Sh.sizeL, List.nil_append, Nat.zero_add, e, List.drop_left]
    exact ⟨c, d1, rfl, hc, h2⟩
  | y :: ys, _, c, i + 1, z, x, ⟨c1, d1, rfl, h1, h2⟩, hz, hc, hs => by
    have := RepL.set h2 (by simpa using hz : ys[i]? = some z) hc hs
    simp only [List.set_cons_succ, List.take_succ_cons, V.shapeL, Sh.sizeL]
    rw [← RepC.length y c1 h1, List.take_append, List.take_of_length_le (l := c1) (by omega), Nat.add_sub_cancel_left, Nat.add_assoc, ← List.drop_drop, List.drop_left, List.append_assoc, List.append_assoc]
    exact ⟨c1, _, rfl, h1, by rw [← List.append_assoc]; exact this⟩

theorem shapeL_take_set {xs : List V} {i k : Nat} {z x : V} (hz : xs[i]? = some z) (hs : x.shape.size = z.shape.size) : Sh.sizeL (V.shapeL ((xs.set i x).take k)) = Sh.sizeL (V.shapeL (xs.take k)) := by
  induction xs generalizing i k with
  | nil => simp
  | cons y ys ih =>
    cases k with
    | zero => simp
    | succ k =>
      cases i with
      | zero =>
        have : y = z := by simpa using hz
        subst this
        simp [V.shapeL, Sh.sizeL, hs]
      | succ i =>
        simp only [List.set_cons_succ, List.take_succ_cons, V.shapeL, Sh.sizeL, ih (by simpa using hz)]

/-- The parts' places. -/
def PlacesOf (place : Nat → Option (Nat × Nat)) (zs : List V) : Prop := ∀ i z, zs[i]? = some z → place i = some (Sh.sizeL (V.shapeL (zs.take i)), z.shape.size)

theorem PlacesOf.set {place : Nat → Option (Nat × Nat)} {zs : List V} {i : Nat} {z x : V} (h : PlacesOf place zs) (hz : zs[i]? = some z) (hs : x.shape.size = z.shape.size) : PlacesOf place (zs.set i x) := by
  intro k y hy
  rw [shapeL_take_set hz hs]
  rw [List.getElem?_set] at hy
  split at hy
  · rename_i e
    subst e
    split at hy
    · cases hy; rw [hs]; exact h i z hz
    · cases hy
  · exact h k y hy

theorem partsFit.set {r : Opd → V} {i : Nat} {z x : V} : ∀ {qs : List (Nat × Opd)} {zs : List V}, zs[i]? = some z → x.shape.size = z.shape.size → partsFit r zs qs → partsFit r (zs.set i x) qs
  | [], _, _, _, _ => trivial
  | (j, y) :: qs, zs, hz, hs, ⟨h1, ⟨u, h2, h3⟩, h4⟩ => by
    refine ⟨h1, ?_, partsFit.set hz hs h4⟩
    rw [List.getElem?_set]
    split
    · rename_i e
      subst e
      rw [hz] at h2
      cases h2
      have hl := (List.getElem?_eq_some_iff.1 hz).1
      exact ⟨x, by simp [hl], by rw [hs]; exact h3⟩
    · exact ⟨u, h2, h3⟩

section
variable {P : Program} {σ : St} {ρ : Nat → V} {a : Act} {o : Oper} {v : V} {c : Prop}

theorem fill_rep {place : Nat → Option (Nat × Nat)} (hf : RepF σ ρ a) : ∀ {ps : List (Nat × Operand)} {qs : List (Nat × Opd)} {zs : List V} {cells : Array Value}, chkParts ps qs = true → there ρ (qs.map (·.2)) = true →
    PlacesOf place zs → partsFit (val ρ) zs qs → RepL σ zs cells.toList → ∃ cells', Instr.fill place cells (ps.map fun p => (p.1, a.eval p.2)) = some cells' ∧ RepL σ (setParts (val ρ) zs qs) cells'.toList
  | [], [], zs, cells, _, _, _, _, h => ⟨cells, rfl, h⟩
  | (i, x) :: ps, (j, y) :: qs, zs, cells, hk, ht, hp, hq, h => by
    simp only [chkParts, Bool.and_eq_true, beq_iff_eq] at hk
    obtain ⟨⟨rfl, h1⟩, h2⟩ := hk
    simp only [List.map_cons] at ht
    rw [there_cons] at ht
    obtain ⟨q1, ⟨z, q2, q3⟩, q4⟩ := hq
    have r := (opd_rep hf h1 ht.1).repC q1
    have hl := RepC.length _ _ r
    have hle := RepL.get_le h q2
    have hsz : (a.eval x).cells.size = z.shape.size := by rw [← q3, ← hl]; simp
    have hset := RepL.set h q2 r q3
    rw [hl, q3] at hset
    obtain ⟨cells', k1, k2⟩ := fill_rep hf (cells := (a.eval x).cells.zipIdx.foldl (fun cs (x : Value × Nat) => cs.setIfInBounds (Sh.sizeL (V.shapeL (zs.take i)) + x.2) x.1) cells) h2 ht.2 (hp.set q2 q3) (partsFit.set q2 q3 q4) (by
      have := foldl_splice (a.eval x).cells.toList (Sh.sizeL (V.shapeL (zs.take i))) cells (by simp [hsz]; simpa using hle)
      rw [List.zipIdx_eq_map_add, List.foldl_map] at this
      rw [← Array.foldl_toList, Array.toList_zipIdx]
      simp only [Nat.add_comm] at this ⊢
      rw [this]
      simpa [hsz, Nat.add_comm] using hset)
    refine ⟨cells', ?_, k2⟩
    simp only [List.map_cons, Instr.fill, hp i z q2]
    rw [if_neg]
    · exact k1
    · simp [hsz]; simpa using hle
  | [], _ :: _, _, _, hk, _, _, _, _ => by simp [chkParts] at hk
  | _ :: _, [], _, _, hk, _, _, _, _ => by simp [chkParts] at hk

theorem fieldsAt_places : ∀ {off : Nat} {fs : List Field} {zs : List V}, fieldsAt P off fs zs = true → ∃ places, fs.mapM (fun f => (P.info? f.type).map fun i => (f.offset, i.size)) = some places ∧
    ∀ i z, zs[i]? = some z → places[i]? = some (off + Sh.sizeL (V.shapeL (zs.take i)), z.shape.size)
  | _, [], [], _ => ⟨[], rfl, fun i z h => by simp at h⟩
  | off, f :: fs, z :: zs, h => by
    simp only [fieldsAt, Bool.and_eq_true, beq_iff_eq] at h
    obtain ⟨⟨h1, h2⟩, h3⟩ := h
    obtain ⟨places, h4, h5⟩ := fieldsAt_places h3
    obtain ⟨h6, i, hi⟩ := cellsOf_of h2
    have h7 : i.size = z.shape.size := by simpa [Program.cellsOf, hi] using h6
    refine ⟨(f.offset, i.size) :: places, by simp [List.mapM_cons, hi, h4], ?_⟩
    intro k y hy
    cases k with
    | zero =>
      have : z = y := by simpa using hy
      subst this
      simp [h1, h7, V.shapeL, Sh.sizeL]
    | succ k =>
      have := h5 k y (by simpa using hy)
      simp only [List.getElem?_cons_succ, List.take_succ_cons, V.shapeL, Sh.sizeL, this]
      rw [Nat.add_assoc]
  | _, [], _ :: _, h => by simp [fieldsAt] at h
  | _, _ :: _, [], h => by simp [fieldsAt] at h

theorem RepVs.get {σ : St} : ∀ {xs : List V} {cs : List Value} {i : Nat} {x : V}, RepVs σ xs cs → xs[i]? = some x → ∃ c, cs[i]? = some c ∧ RepV σ x c
  | [], _, _, _, _, h => by simp at h
  | y :: ys, _, 0, x, ⟨c, d, l, rfl, h1, h2, h3⟩, h => by
    have : y = x := by simpa using h
    subst this
    exact ⟨c, by simp, h1.repV h2⟩
  | y :: ys, _, i + 1, x, ⟨c, d, l, rfl, h1, h2, h3⟩, h => by
    obtain ⟨c', k1, k2⟩ := RepVs.get h3 (by simpa using h)
    exact ⟨c', by simpa using k1, k2⟩

theorem zero_cells {z : V} {u : Value} (h : constOk z u = true) (σ : St) : RepC σ z u.cells.toList := by
  obtain ⟨_, l, h1, _, h2⟩ := constOk_rep h σ
  rw [← h2]; exact h1

theorem zeroIs_spec {t : TypeId} {z : V} (h : zeroIs P t z = true) : ∃ i u, P.info? t = some i ∧ i.zero = some u ∧ constOk z u = true := by
  unfold zeroIs at h
  split at h
  · rename_i i hi
    split at h
    · rename_i u hu; exact ⟨i, u, hi, hu, h⟩
    · cases h
  · cases h

theorem sound_build {zs : List V} {parts : List (Nat × Opd)} (hk : chkPure P o.op (.build zs parts) = true) (I : Inv σ) (hf : RepF σ ρ a) (ht : there ρ (parts.map (·.2)) = true)
    (he : evp (.build zs parts) (val ρ) σ.H = some (c, v)) (hc : c) : Yields P (execOp a.eval o) σ v := by
  cases ho : o.op <;> simp only [ho, chkPure] at hk <;> first | (cases hk; done) | skip
  rename_i t ps
  simp only [Bool.and_eq_true] at hk
  obtain ⟨⟨h1, h2⟩, h3⟩ := hk
  simp only [evp, Option.some.injEq, Prod.mk.injEq] at he
  obtain ⟨rfl, rfl⟩ := he
  obtain ⟨it, u, hit, hiz, hz⟩ := zeroIs_spec h1
  have hzr : RepL σ zs u.cells.toList := zero_cells hz σ
  have hps : (ps.map fun x => (x.1, a.eval x.2)).toList = ps.toList.map fun p => (p.1, a.eval p.2) := by simp
  suffices h : ∃ cells', P.built t (ps.map fun x => (x.1, a.eval x.2)).toList = some cells' ∧ RepL σ (setParts (val ρ) zs parts) cells'.toList by
    obtain ⟨cells', k1, k2⟩ := h
    refine .same I (cv := .agg cells') ?_ (repV_agg.2 ⟨_, by simp, k2⟩)
    simp only [execOp, ho, Sem.run_bind, run_build σ.w t _ cells' k1, Result.andThen_ok, Sem.run_pure]
  unfold aggParts at h2
  split at h2
  · rename_i fs hu
    obtain ⟨places, k1, k2⟩ := fieldsAt_places h2
    obtain ⟨cells', k3, k4⟩ := fill_rep (place := (places.toArray[·]?)) hf (cells := u.cells) h3 ht (fun i z hi => by simpa using k2 i z hi) hc hzr
    exact ⟨cells', by simp only [Program.built, hit, hu, hiz, k1, hps, k3], k4⟩
  · rename_i n e hu
    cases zs with
    | nil => cases h2
    | cons z zs =>
      simp only [Bool.and_eq_true, List.all_eq_true, beq_iff_eq] at h2
      obtain ⟨h2, h4⟩ := h2
      obtain ⟨h6, ie, hie⟩ := cellsOf_of h2
      have h7 : ie.size = z.shape.size := by simpa [Program.cellsOf, hie] using h6
      obtain ⟨cells', k3, k4⟩ := fill_rep (place := fun i => some (i * ie.size, ie.size)) hf (cells := u.cells) h3 ht (fun i y hi => by
        have hy : y.shape.size = z.shape.size := h4 y (List.mem_of_getElem? hi)
        have : Sh.sizeL (V.shapeL ((z :: zs).take i)) = i * z.shape.size := by
          rw [← V.shapeL_take]
          exact Sh.sizeL_const (uniform_shape h4) (by rw [V.shapeL_length]; have := (List.getElem?_eq_some_iff.1 hi).1; omega)
        rw [this, h7, hy]) hc hzr
      exact ⟨cells', by simp only [Program.built, hit, hu, hiz, hie, hps, k3], k4⟩
  · cases h2

theorem sound_extract {i : Nat} {x : Opd} (hk : chkPure P o.op (.extract i x) = true) (I : Inv σ) (hf : RepF σ ρ a) (ht : there ρ [x] = true)
    (he : evp (.extract i x) (val ρ) σ.H = some (c, v)) : Yields P (execOp a.eval o) σ v := by
  rw [there_cons] at ht
  cases ho : o.op <;> simp only [ho, chkPure] at hk <;> first | (cases hk; done) | skip
  rename_i x' j
  simp only [Bool.and_eq_true, beq_iff_eq] at hk
  obtain ⟨rfl, h1⟩ := hk
  have r1 := opd_rep hf h1 ht.1
  simp only [evp] at he
  split at he
  · rename_i vs e1
    rw [e1] at r1
    split at he
    · rename_i y hy
      simp only [Option.some.injEq, Prod.mk.injEq] at he
      obtain ⟨_, rfl⟩ := he
      obtain ⟨cs, k1, k2⟩ := repV_tup.1 r1
      obtain ⟨cv, k3, k4⟩ := RepVs.get k2 hy
      refine .same I (cv := cv) ?_ k4
      have : cs[i]? = some cv := by rw [← Array.getElem?_toList]; exact k3
      simp [execOp, ho, k1, Instr.extract, this]
    · cases he
  · cases he

theorem repVs_of_all {σ : St} : ∀ {vs : List V} {cs : List Value}, (∀ v ∈ vs, v.plain = true) → RepAll σ vs cs → RepVs σ vs cs
  | [], _, _, h => h
  | v :: vs, _, hp, ⟨c, d, h1, h2, h3⟩ => by
    obtain ⟨l, k1, k2⟩ := (RepV.of_plain (hp v (by simp))).1 h2
    exact ⟨c, d, l, h1, k1, k2, repVs_of_all (fun y hy => hp y (by simp [hy])) h3⟩

theorem sound_mkfn {f : Nat} {xs ys : List Opd} (hk : chkPure P o.op (.mkfn f xs ys) = true) (I : Inv σ) (hf : RepF σ ρ a) (ht : there ρ (xs ++ ys) = true)
    (he : evp (.mkfn f xs ys) (val ρ) σ.H = some (c, v)) (hc : c) : Yields P (execOp a.eval o) σ v := by
  rw [there_app] at ht
  cases ho : o.op <;> simp only [ho, chkPure] at hk <;> first | (cases hk; done) | skip
  rename_i fn first cap
  cases fn <;> simp only [Bool.false_eq_true, Bool.and_eq_true, beq_iff_eq] at hk
  obtain ⟨⟨rfl, h1⟩, h2⟩ := hk
  simp only [evp, Option.some.injEq, Prod.mk.injEq] at he
  obtain ⟨rfl, rfl⟩ := he
  have r1 := opds_rep hf h1 ht.1
  have r2 := opds_rep hf h2 ht.2
  refine .same I (cv := .func (.func _) (first.map a.eval) (cap.map a.eval)) ?_ (repV_fn.2 ⟨_, _, rfl, ?_, ?_⟩)
  · simp [execOp, ho, Instr.makeFunc]
  · rw [Array.toList_map]; exact repVs_of_all hc.1 r1
  · rw [Array.toList_map]; exact repVs_of_all hc.2 r2

theorem sound_nilchk {x : Opd} (hk : chkPure P o.op (.nilchk x) = true) (I : Inv σ) (hf : RepF σ ρ a) (ht : there ρ [x] = true)
    (he : evp (.nilchk x) (val ρ) σ.H = some (c, v)) : Yields P (execOp a.eval o) σ v := by
  rw [there_cons] at ht
  cases ho : o.op <;> simp only [ho, chkPure] at hk <;> first | (cases hk; done) | skip
  have r1 := opd_rep hf hk ht.1
  simp only [evp] at he
  split at he
  · rename_i t p e1
    rw [e1] at r1
    simp only [Option.some.injEq, Prod.mk.injEq] at he
    obtain ⟨_, rfl⟩ := he
    obtain ⟨_, _, _, _, k⟩ := repV_ptr.1 r1
    exact .same I (by simp [execOp, ho, k]; rfl) (by rw [← k]; exact r1)
  · rename_i t e1
    rw [e1] at r1
    simp only [Option.some.injEq, Prod.mk.injEq] at he
    obtain ⟨_, rfl⟩ := he
    obtain ⟨_, _, _, k, _⟩ := repV_box.1 r1
    exact .same I (by simp [execOp, ho, k]; rfl) (by rw [← k]; exact r1)
  · rename_i f p q e1
    rw [e1] at r1
    simp only [Option.some.injEq, Prod.mk.injEq] at he
    obtain ⟨_, rfl⟩ := he
    obtain ⟨_, _, k, _⟩ := repV_fn.1 r1
    exact .same I (by simp [execOp, ho, k]; rfl) (by rw [← k]; exact r1)
  · cases he

theorem sound_mm {mx : Bool} {x y : Opd} (hk : chkPure P o.op (.mm mx x y) = true) (I : Inv σ) (hf : RepF σ ρ a) (ht : there ρ [x, y] = true)
    (he : evp (.mm mx x y) (val ρ) σ.H = some (c, v)) (hc : c) : Yields P (execOp a.eval o) σ v := by
  rw [there_cons, there_cons] at ht
  cases ho : o.op <;> simp only [ho, chkPure] at hk <;> first | (cases hk; done) | skip
  rename_i cl
  obtain ⟨callee, args, argTypes⟩ := cl
  cases callee with
  | value => cases hk
  | invoke => cases hk
  | builtin b =>
    simp only [Bool.and_eq_true, beq_iff_eq] at hk
    obtain ⟨hb, hk⟩ := hk
    obtain ⟨args⟩ := args
    match args, hk with
    | [p, q], hk =>
      simp only [Bool.and_eq_true] at hk
      obtain ⟨h1, h2⟩ := hk
      have r1 := opd_rep hf h1 ht.1
      have r2 := opd_rep hf h2 ht.2.1
      simp only [evp] at he
      split at he
      · rename_i k m k' n e1 e2
        rw [e1, repV_int] at r1
        rw [e2, repV_int] at r2
        simp only [Option.some.injEq, Prod.mk.injEq] at he
        obtain ⟨rfl, rfl⟩ := he
        subst hc
        refine .same I ?_ (repV_int.2 rfl)
        cases mx <;> simp at hb <;> subst hb
        · simp only [execOp, ho, resolve, invoke, builtin, Sem.run_bind, Sem.run_pure, Result.andThen_ok, List.map_toArray, List.map_cons, List.map_nil, Builtin.min_, r1, r2, List.foldlM_cons, List.foldlM_nil, Builtin.min2]
          simp
        · simp only [execOp, ho, resolve, invoke, builtin, Sem.run_bind, Sem.run_pure, Result.andThen_ok, List.map_toArray, List.map_cons, List.map_nil, Builtin.max_, r1, r2, List.foldlM_cons, List.foldlM_nil, Builtin.max2]
          simp
      · cases he
end
end Go.Abs
end

section
namespace Go.Abs
open Go

theorem push_modify {α : Type} (h : Array α) (x : α) (f : α → α) : (h.push x).modify h.size f = h.push (f x) := by
  apply Array.ext_getElem?
  intro i
  rw [Array.getElem?_modify, Array.getElem?_push, Array.getElem?_push]
  split
  · rename_i e
    subst e
    simp
  · rw [if_neg (by omega), if_neg (by omega)]

section
variable {P : Program} {σ : St} {ρ : Nat → V} {a : Act} {o : Oper} {v : V} {c : Prop}

theorem byteCells_rep {σ : St} : ∀ (s : List UInt8), RepL σ (bytesV s) (s.map fun (b : UInt8) => Value.int .u8 (b.toNat : Int))
  | [] => rfl
  | b :: s => ⟨[.int .u8 (b.toNat : Int)], _, rfl, by simp [RepC, byteV], byteCells_rep s⟩

theorem bytesV_size (s : List UInt8) : ∀ x ∈ bytesV s, x.shape.size = 1 := by
  intro x hx
  obtain ⟨b, _, rfl⟩ := List.mem_map.1 hx
  simp [byteV, V.shape, Sh.size]

/-- A text made a slice of bytes: a new block. -/
theorem run_s2b {s d e : TypeId} {u : TypeDesc} (h1 : P.underlying s = some u) (h2 : P.underlying d = some (.slice e)) (h3 : P.underlying e = some (.int .u8)) (l : List UInt8) (w : World) :
    ∃ cap w' rest, l.length ≤ cap ∧ (convert s d (.string ⟨l.toArray⟩)).run P w = .ok (.slice (some ⟨w.heap.size, 0, none⟩) l.length cap) w' ∧ rest.length = cap - l.length ∧
      w'.heap = w.heap.push (.cells ((l.map fun (b : UInt8) => Value.int .u8 (b.toNat : Int)) ++ rest).toArray e (cap, cap + 1)) ∧ w'.os = w.os ∧ w'.tape = w.tape ∧ w'.output = w.output := by
  have hsz : (ByteArray.mk l.toArray).size = l.length := by simp [ByteArray.size]
  obtain ⟨cap, hcap⟩ : ∃ cap, cap = (Question.appendCap l.length 0 e).cut (w.tape w.drawn (.appendCap l.length 0 e)) := ⟨_, rfl⟩
  have hle : l.length ≤ cap := by rw [hcap]; simp [Question.cut]
  refine ⟨cap, { w with heap := w.heap.push (.cells ((l.map fun (b : UInt8) => Value.int .u8 (b.toNat : Int)) ++ List.replicate (cap - l.length) (Value.int .u8 0)).toArray e (cap, cap + 1)), drawn := w.drawn + 1 }, List.replicate (cap - l.length) (Value.int .u8 0), hle, ?_, by simp, rfl, rfl, rfl, rfl⟩
  have harr : ((ByteArray.mk l.toArray).data.map fun (b : UInt8) => Value.int .u8 (b.toNat : Int)) ++ Array.replicate (cap - l.length) (Value.int .u8 0) = ((l.map fun (b : UInt8) => Value.int .u8 (b.toNat : Int)) ++ List.replicate (cap - l.length) (Value.int .u8 0)).toArray := by
    apply Array.ext'
    simp
  have hcs : (((l.map fun (b : UInt8) => Value.int .u8 (b.toNat : Int)) ++ List.replicate (cap - l.length) (Value.int .u8 0)).toArray).size = cap := by simp; omega
  simp only [convert, Sem.run_bind, run_underlying h1, run_underlying h2, run_underlying h3, Result.andThen_ok, Conv.stringToBytes, hsz, run_choose, Question.forced, Bool.false_eq_true, if_false, ← hcap]
  rw [show (Array.map (fun (b : UInt8) => Value.int .u8 (b.toNat : Int)) l.toArray ++ Array.replicate (cap - l.length) (Value.int .u8 0)) = _ from harr]
  simp only [newRow, Sem.run_bind, run_newObj, Result.andThen_ok, Sem.run_pure, markStringish, run_shape, World.shape?, Array.getElem?_push_size, run_freeze, World.freeze, hcs, push_modify]
  simp only [Nat.one_ne_zero, if_false, beq_self_eq_true, if_true]

theorem sound_s2b {x : Opd} (hk : chkPure P o.op (.s2b x) = true) (I : Inv σ) (hf : RepF σ ρ a) (ht : there ρ [x] = true)
    (he : evp (.s2b x) (val ρ) σ.H = some (c, v)) : Yields P (execOp a.eval o) σ v := by
  rw [there_cons] at ht
  cases ho : o.op <;> simp only [ho, chkPure] at hk <;> first | (cases hk; done) | skip
  rename_i s d y
  simp only [Bool.and_eq_true, Option.isSome_iff_exists] at hk
  obtain ⟨⟨h1, u, h2⟩, h3⟩ := hk
  obtain ⟨e, h4, h5⟩ := bytesType_spec h3
  have r1 := opd_rep hf h1 ht.1
  simp only [evp] at he
  split at he
  · rename_i l e1
    rw [e1, repV_str] at r1
    simp only [Option.some.injEq, Prod.mk.injEq] at he
    obtain ⟨_, rfl⟩ := he
    obtain ⟨cap, w', rest, k1, k2, k3, k4, k5, k6, k7⟩ := run_s2b (P := P) h2 h4 h5 l σ.w
    have hI := σ.grow_inv I (fun i => i < l.length) k4 k5 k6 k7
    refine ⟨.slice (some ⟨σ.w.heap.size, 0, none⟩) (bytesV l).length cap, σ.grow w' (fun i => i < l.length), ?_, rfl, hI, repV_sl.2 ⟨some ⟨σ.w.heap.size, 0, none⟩, cap, ?_, ?_, trivial, ?_⟩, σ.grow_tr I _ k4 k5 k6 k7 _⟩
    · simp only [execOp, ho, r1, Sem.run_bind, k2, Result.andThen_ok, Sem.run_pure]
      simp [bytesV, St.grow]
    · rfl
    · simpa [bytesV] using k1
    · refine .inr ⟨_, 0, rfl, RepE.mk (bytesV_size l) (byteCells_rep l) fun k hk => ⟨.inr ⟨rfl, by simpa using hk⟩, ?_⟩⟩
      have hb : (σ.grow w' fun i => i < l.length).w.heap[σ.w.heap.size]? = some (.cells ((l.map fun (b : UInt8) => Value.int .u8 (b.toNat : Int)) ++ rest).toArray e (cap, cap + 1)) := by
        show w'.heap[_]? = _
        rw [k4]; simp
      rw [cell_heap hb]
      simp only [List.length_map] at hk
      simp [List.getElem?_append_left (show k < (l.map fun (b : UInt8) => Value.int .u8 (b.toNat : Int)).length by simpa using hk), List.getElem?_eq_getElem hk]
  · cases he

theorem zeros_flat (zc : Array Value) : ∀ n : Nat, ((Array.range (n * zc.size)).map (zc[· % zc.size]!)).toList = (List.replicate n zc.toList).flatten
  | 0 => by simp
  | n + 1 => by
    have ih := zeros_flat zc n
    simp only [Array.toList_map, Array.toList_range] at ih ⊢
    rw [Nat.add_mul, Nat.one_mul, List.range_add, List.map_append, ih, List.replicate_succ', List.flatten_append]
    congr 1
    simp only [List.map_map, List.flatten_cons, List.flatten_nil, List.append_nil]
    apply List.ext_getElem
    · simp
    · intro i h1 h2
      simp only [List.length_map, List.length_range] at h1
      simp [Nat.mul_comm n, Nat.mul_add_mod_self_left, Nat.mod_eq_of_lt h1, h1]

theorem RepL.replicate {σ : St} {z : V} {zc : List Value} (h : RepC σ z zc) : ∀ n : Nat, RepL σ (List.replicate n z) (List.replicate n zc).flatten
  | 0 => rfl
  | n + 1 => by simp only [List.replicate_succ, List.flatten_cons]; exact ⟨zc, _, rfl, h, RepL.replicate h n⟩

theorem setParts_length {r : Opd → V} : ∀ {ps : List (Nat × Opd)} {zs : List V}, (setParts r zs ps).length = zs.length
  | [], _ => rfl
  | (i, x) :: ps, zs => by simp only [setParts]; rw [setParts_length]; simp

theorem setParts_size {r : Opd → V} {sz : Nat} : ∀ {ps : List (Nat × Opd)} {zs : List V}, (∀ z ∈ zs, z.shape.size = sz) → partsFit r zs ps → ∀ x ∈ setParts r zs ps, x.shape.size = sz
  | [], _, h, _ => h
  | (i, y) :: ps, zs, h, ⟨_, ⟨z, h1, h2⟩, h3⟩ => by
    simp only [setParts]
    refine setParts_size (fun w hw => ?_) (partsFit.set h1 h2 h3)
    rcases List.mem_or_eq_of_mem_set hw with hw | rfl
    · exact h w hw
    · rw [h2]; exact h z (List.mem_of_getElem? h1)

/-- A block that is new and whole settled. -/
theorem grow_has {w' : World} {cs : List Value} {e : TypeId} {fr : Nat × Nat} {n : Nat} (hw : w'.heap = σ.w.heap.push (.cells cs.toArray e fr)) (hn : cs.length ≤ n) : (σ.grow w' (fun i => i < n)).has σ.w.heap.size 0 cs := by
  intro k hk
  refine ⟨.inr ⟨rfl, by omega⟩, ?_⟩
  have hb : (σ.grow w' fun i => i < n).w.heap[σ.w.heap.size]? = some (.cells cs.toArray e fr) := by
    show w'.heap[_]? = _
    rw [hw]; simp
  rw [cell_heap hb]
  simp [hk]

theorem sound_lit {sz len : Nat} {z : V} {parts : List (Nat × Opd)} (hk : chkPure P o.op (.lit sz z len parts) = true) (I : Inv σ) (hf : RepF σ ρ a) (ht : there ρ (parts.map (·.2)) = true)
    (he : evp (.lit sz z len parts) (val ρ) σ.H = some (c, v)) (hc : c) : Yields P (execOp a.eval o) σ v := by
  cases ho : o.op <;> simp only [ho, chkPure] at hk <;> first | (cases hk; done) | skip
  rename_i t n ps
  simp only [Bool.and_eq_true, beq_iff_eq, decide_eq_true_eq] at hk
  obtain ⟨⟨⟨⟨rfl, h2⟩, h3⟩, h4⟩, h5⟩ := hk
  split at h5
  · rename_i e hu
    simp only [Bool.and_eq_true] at h5
    obtain ⟨h5, h6⟩ := h5
    simp only [evp, Option.some.injEq, Prod.mk.injEq] at he
    obtain ⟨rfl, rfl⟩ := he
    obtain ⟨c1, c2⟩ := hc
    obtain ⟨u, hz, hrun⟩ := run_zero h6
    have hzc := zero_cells hz σ
    have hzl : u.cells.size = sz := by rw [← c1, ← RepC.length _ _ hzc]; simp
    have hz0 : RepL σ (List.replicate n z) ((Array.range (n * sz)).map (u.cells[· % u.cells.size]!)).toList := by
      rw [← hzl, zeros_flat]; exact RepL.replicate hzc n
    have hun : ∀ x ∈ List.replicate n z, x.shape.size = sz := fun x hx => by rw [(List.mem_replicate.1 hx).2]; exact c1
    obtain ⟨cells', k3, k4⟩ := fill_rep (place := fun i => some (i * sz, sz)) hf (cells := (Array.range (n * sz)).map (u.cells[· % u.cells.size]!)) h2 ht (fun i y hi => by
      have hy := hun y (List.mem_of_getElem? hi)
      have : Sh.sizeL (V.shapeL ((List.replicate n z).take i)) = i * sz := by
        rw [← V.shapeL_take]
        exact Sh.sizeL_const (uniform_shape hun) (by rw [V.shapeL_length]; have := (List.getElem?_eq_some_iff.1 hi).1; omega)
      rw [this, hy]) c2 hz0
    have hps : (ps.map fun x => (x.1, a.eval x.2)).toList = ps.toList.map fun p => (p.1, a.eval p.2) := by simp
    have hl : (setParts (val ρ) (List.replicate n z) parts).length = n := by rw [setParts_length]; simp
    have hs := setParts_size hun c2
    have hcl : cells'.toList.length = n * sz := by rw [RepL.length_const k4 hs, hl]
    let w' : World := { σ.w with heap := σ.w.heap.push (.cells cells'.toList.toArray e (0, 0)) }
    have hI := σ.grow_inv I (w' := w') (fun i => i < n * sz) rfl rfl rfl rfl
    have hle := (σ.grow_tr I (w' := w') (fun i => i < n * sz) rfl rfl rfl rfl σ.H.length).le
    refine ⟨.slice (some ⟨σ.w.heap.size, 0, none⟩) n n, σ.grow w' (fun i => i < n * sz), ?_, rfl, hI, repV_sl.2 ⟨some ⟨σ.w.heap.size, 0, none⟩, n, by rw [hl], by rw [hl]; exact Nat.le_refl _, ?_, ?_⟩, σ.grow_tr I (w' := w') _ rfl rfl rfl rfl _⟩
    · have hb : (Instr.buildSlice t n (ps.map fun x => (x.1, a.eval x.2))).run P σ.w = .ok (.slice (some ⟨σ.w.heap.size, 0, none⟩) n n) w' := by
        unfold Instr.buildSlice
        simp only [Sem.run_bind, run_underlying hu, Result.andThen_ok, run_size h5, if_neg (show ¬ n * sz > 2 ^ 24 by omega), hps]
        by_cases h0 : n * sz = 0
        · simp only [h0, if_true, Sem.run_bind, Sem.run_pure, Result.andThen_ok]
          rw [h0] at k3
          have : (Array.range 0).map ((#[] : Array Value)[· % (#[] : Array Value).size]!) = (Array.range 0).map (u.cells[· % u.cells.size]!) := by simp
          rw [this, k3]
          simp [newRow, w']
        · simp only [if_neg h0, hrun, Result.andThen_ok, Sem.run_pure, Sem.run_bind]
          rw [k3]
          simp [newRow, w']
      simp only [execOp, ho, Sem.run_bind, hb, Result.andThen_ok, Sem.run_pure]
      rfl
    · rw [hl]; rfl
    · exact .inr ⟨_, 0, rfl, RepE.mk hs (RepL.mono hle _ _ k4) (grow_has (σ := σ) (w' := w') (e := e) (fr := (0, 0)) rfl (by omega))⟩
  · cases h5
end
end Go.Abs
end
