/-
  Abstract code against the model's: pure operations, the third part: numbers, texts, comparisons. Abstract code against the model's: pure operations, the fourth part.
  Conditions: those that stand ahead of each theorem; no more.
-/
import Derived.Test.YtblnejkfaniljaaGreatDoorT03

section
namespace Go.Abs
open Go

mutual
def TD.depth : TD → Nat
  | .arr _ e => e.depth + 1
  | .struct fs => TD.depthL fs + 1
  | _ => 0
def TD.depthL : List TD → Nat
  | [] => 0
  | f :: fs => max f.depth (TD.depthL fs)
end

mutual
theorem TD.fits_size : ∀ (td : TD) (v : V), td.fits v = true → v.shape.size = td.size ∧ isAggV v = td.isAgg
  | .int k, v, h => by cases v <;> simp [TD.fits] at h; simp [V.shape, Sh.size, TD.size, isAggV, TD.isAgg]
  | .bool, v, h => by cases v <;> simp [TD.fits] at h; simp [V.shape, Sh.size, TD.size, isAggV, TD.isAgg]
  | .str, v, h => by cases v <;> simp [TD.fits] at h; simp [V.shape, Sh.size, TD.size, isAggV, TD.isAgg]
  | .arr n e, v, h => by
    cases v <;> simp [TD.fits] at h
    rename_i xs
    refine ⟨?_, rfl⟩
    simp only [V.shape, Sh.size, TD.size]
    rw [← h.1]
    exact TD.fitsAll_size e xs h.2
  | .struct fs, v, h => by
    cases v <;> simp [TD.fits] at h
    rename_i xs
    refine ⟨?_, rfl⟩
    simp only [V.shape, Sh.size, TD.size]
    exact TD.fitsL_size fs xs h
theorem TD.fitsAll_size (e : TD) : ∀ (xs : List V), TD.fitsAll e xs = true → Sh.sizeL (V.shapeL xs) = xs.length * e.size
  | [], _ => by simp [V.shapeL, Sh.sizeL]
  | x :: xs, h => by
    simp only [TD.fitsAll, Bool.and_eq_true] at h
    simp only [V.shapeL, Sh.sizeL, (TD.fits_size e x h.1).1, TD.fitsAll_size e xs h.2, List.length_cons, Nat.add_mul]
    omega
theorem TD.fitsL_size : ∀ (fs : List TD) (xs : List V), TD.fitsL fs xs = true → Sh.sizeL (V.shapeL xs) = TD.sizeL fs
  | [], [], _ => by simp [V.shapeL, Sh.sizeL, TD.sizeL]
  | f :: fs, x :: xs, h => by
    simp only [TD.fitsL, Bool.and_eq_true] at h
    simp only [V.shapeL, Sh.sizeL, (TD.fits_size f x h.1).1, TD.fitsL_size fs xs h.2, TD.sizeL]
  | [], _ :: _, h => by simp [TD.fitsL] at h
  | _ :: _, [], h => by simp [TD.fitsL] at h
end

theorem TD.fitsAll_get {e : TD} : ∀ {xs : List V} {i : Nat} {x : V}, TD.fitsAll e xs = true → xs[i]? = some x → e.fits x = true
  | [], _, _, _, h => by simp at h
  | y :: ys, 0, x, h, hx => by
    simp only [TD.fitsAll, Bool.and_eq_true] at h
    have : y = x := by simpa using hx
    rw [← this]; exact h.1
  | y :: ys, i + 1, x, h, hx => by
    simp only [TD.fitsAll, Bool.and_eq_true] at h
    exact TD.fitsAll_get h.2 (by simpa using hx)

theorem TD.fitsAll_take {e : TD} : ∀ {xs : List V} (i : Nat), TD.fitsAll e xs = true → TD.fitsAll e (xs.take i) = true
  | [], _, _ => by simp [TD.fitsAll]
  | y :: ys, 0, _ => by simp [TD.fitsAll]
  | y :: ys, i + 1, h => by
    simp only [TD.fitsAll, Bool.and_eq_true, List.take_succ_cons] at h ⊢
    exact ⟨h.1, TD.fitsAll_take i h.2⟩

section
variable {P : Program} {σ : St}

theorem cellsOf_of {t : TypeId} {n : Nat} (h : szIs P t n = true) : P.cellsOf t = n ∧ ∃ i, P.info? t = some i := by
  unfold szIs at h
  split at h
  · rename_i i hi
    exact ⟨by have : i.size = n := by simpa using h
              rw [← this]; simp [Program.cellsOf, hi], i, hi⟩
  · cases h

/-- The elements of an array, from one on, compared. -/
theorem eqItems_rep {d : Nat} {u : TypeId} {e : TD} {xs ys : List V} {cs ds : List Value} (hsz : szIs P u e.size = true) (hag : aggIs P u e.isAgg = true) (hx : TD.fitsAll e xs = true) (hy : TD.fitsAll e ys = true)
    (rx : RepL σ xs cs) (ry : RepL σ ys ds) (hl : xs.length = ys.length)
    (ih : ∀ (x y : V) (X Y : Value), e.fits x = true → e.fits y = true → RepV σ x X → RepV σ y Y → ∀ w, (Op.equalIn d u X Y).run P w = .ok (x.eq y) w) (w : World) :
    ∀ (n k : Nat), k + n = xs.length → (Op.eqItems d u (P.cellsOf u) cs.toArray ds.toArray (List.range' k n)).run P w = .ok (V.eqL (xs.drop k) (ys.drop k)) w
  | 0, k, h => by
    rw [List.drop_eq_nil_of_le (by omega), List.drop_eq_nil_of_le (by omega)]
    simp [Op.eqItems, V.eqL]
  | n + 1, k, h => by
    have hk : k < xs.length := by omega
    have hk' : k < ys.length := by omega
    rw [List.drop_eq_getElem_cons hk, List.drop_eq_getElem_cons hk']
    have gx : xs[k]? = some xs[k] := List.getElem?_eq_getElem hk
    have gy : ys[k]? = some ys[k] := List.getElem?_eq_getElem hk'
    have fx := TD.fitsAll_get hx gx
    have fy := TD.fitsAll_get hy gy
    have px := RepL.get rx gx
    have py := RepL.get ry gy
    rw [TD.fitsAll_size e _ (TD.fitsAll_take k hx), (TD.fits_size e _ fx).1, List.length_take, Nat.min_eq_left (by omega)] at px
    rw [TD.fitsAll_size e _ (TD.fitsAll_take k hy), (TD.fits_size e _ fy).1, List.length_take, Nat.min_eq_left (by omega)] at py
    obtain ⟨X, p1, p2⟩ := part_rep hsz hag px (TD.fits_size e _ fx).1 (TD.fits_size e _ fx).2
    obtain ⟨Y, q1, q2⟩ := part_rep hsz hag py (TD.fits_size e _ fy).1 (TD.fits_size e _ fy).2
    rw [(cellsOf_of hsz).1]
    have IH := eqItems_rep hsz hag hx hy rx ry hl ih w n (k + 1) (by omega)
    rw [(cellsOf_of hsz).1] at IH
    simp only [List.range'_succ, Op.eqItems, Sem.run_bind, p1, q1, Result.andThen_ok, ih _ _ _ _ fx fy p2 q2]
    cases he : xs[k].eq ys[k] <;> simp [V.eqL, he, IH]

mutual
theorem equal_rep (P : Program) {σ : St} : ∀ (td : TD) (t : TypeId) (x y : V) (X Y : Value) (d : Nat), tdChk P t td = true → td.fits x = true → td.fits y = true → RepV σ x X → RepV σ y Y → td.depth < d →
    ∀ w, (Op.equalIn d t X Y).run P w = .ok (x.eq y) w
  | .int k, t, x, y, X, Y, d + 1, ht, hx, hy, rx, ry, _, w => by
    cases x <;> simp [TD.fits] at hx
    cases y <;> simp [TD.fits] at hy
    subst hx; subst hy
    rw [repV_int] at rx ry
    subst rx; subst ry
    simp only [tdChk] at ht
    obtain ⟨u, h1, h2⟩ := isDesc_spec ht
    cases u <;> simp at h2
    rw [run_equalIn_int w d t _ _ _ _ h1]
    simp [V.eq, beq_dec]
  | .bool, t, x, y, X, Y, d + 1, ht, hx, hy, rx, ry, _, w => by
    cases x <;> simp [TD.fits] at hx
    cases y <;> simp [TD.fits] at hy
    rw [repV_bool] at rx ry
    subst rx; subst ry
    simp only [tdChk] at ht
    obtain ⟨u, h1, h2⟩ := isDesc_spec ht
    cases u <;> simp at h2
    rw [run_equalIn_bool w d t _ _ h1]
    simp [V.eq]
  | .str, t, x, y, X, Y, d + 1, ht, hx, hy, rx, ry, _, w => by
    cases x <;> simp [TD.fits] at hx
    cases y <;> simp [TD.fits] at hy
    rw [repV_str] at rx ry
    subst rx; subst ry
    simp only [tdChk] at ht
    obtain ⟨u, h1, h2⟩ := isDesc_spec ht
    cases u <;> simp at h2
    rw [run_equalIn_string w d t _ _ h1]
    simp [V.eq, beq_dec]
  | .arr n e, t, x, y, X, Y, d + 1, ht, hx, hy, rx, ry, hd, w => by
    cases x <;> simp [TD.fits] at hx
    cases y <;> simp [TD.fits] at hy
    rename_i xs ys
    obtain ⟨cs, rfl, rx'⟩ := repV_agg.1 rx
    obtain ⟨ds, rfl, ry'⟩ := repV_agg.1 ry
    simp only [TD.depth] at hd
    simp only [tdChk] at ht
    split at ht
    · rename_i m u hu
      simp only [Bool.and_eq_true, beq_iff_eq] at ht
      obtain ⟨⟨⟨rfl, h1⟩, h2⟩, h3⟩ := ht
      obtain ⟨i, hi⟩ := (cellsOf_of h1).2
      rw [run_equalIn_array w d _ _ hu hi, List.range_eq_range']
      have := eqItems_rep (d := d) h1 h2 hx.2 hy.2 rx' ry' (hx.1.trans hy.1.symm) (fun x y X Y fx fy rx ry w => equal_rep P e u x y X Y d h3 fx fy rx ry (by omega) w) w m 0 (by omega)
      simpa [V.eq] using this
    · cases ht
  | .struct fs, t, x, y, X, Y, d + 1, ht, hx, hy, rx, ry, hd, w => by
    cases x <;> simp [TD.fits] at hx
    cases y <;> simp [TD.fits] at hy
    rename_i xs ys
    obtain ⟨cs, rfl, rx'⟩ := repV_agg.1 rx
    obtain ⟨ds, rfl, ry'⟩ := repV_agg.1 ry
    simp only [TD.depth] at hd
    simp only [tdChk] at ht
    split at ht
    · rename_i gs hu
      simp only [Bool.and_eq_true, Bool.not_eq_true'] at ht
      have hfo : P.fieldsOf t = gs := by simp [Program.fieldsOf, hu]
      rw [run_equalIn_struct w d t _ _ (by rw [hfo]; exact hu) ht.1, hfo]
      have := equalL_rep P fs gs.toList 0 xs ys cs ds (cs) (ds) d ht.2 hx hy rx' ry' (by simp) (by simp) (by omega) w
      simpa [V.eq] using this
    · cases ht
  | .int _, _, _, _, _, _, 0, _, _, _, _, _, hd, _ => by omega
  | .bool, _, _, _, _, _, 0, _, _, _, _, _, hd, _ => by omega
  | .str, _, _, _, _, _, 0, _, _, _, _, _, hd, _ => by omega
  | .arr _ _, _, _, _, _, _, 0, _, _, _, _, _, hd, _ => by omega
  | .struct _, _, _, _, _, _, 0, _, _, _, _, _, hd, _ => by omega
theorem equalL_rep (P : Program) {σ : St} : ∀ (fs : List TD) (gs : List Field) (off : Nat) (xs ys : List V) (cs ds CS DS : List Value) (d : Nat), tdChkL P off gs fs = true → TD.fitsL fs xs = true → TD.fitsL fs ys = true → RepL σ xs cs → RepL σ ys ds →
    CS.drop off = cs → DS.drop off = ds → TD.depthL fs < d → ∀ w, (Op.eqFields d CS.toArray DS.toArray gs).run P w = .ok (V.eqL xs ys) w
  | [], [], off, xs, ys, cs, ds, CS, DS, d, ht, hx, hy, rx, ry, e1, e2, hd, w => by
    cases xs <;> simp [TD.fitsL] at hx
    cases ys <;> simp [TD.fitsL] at hy
    simp [Op.eqFields, V.eqL]
  | f :: fs, g :: gs, off, xs, ys, cs, ds, CS, DS, d, ht, hx, hy, rx, ry, e1, e2, hd, w => by
    cases xs with
    | nil => simp [TD.fitsL] at hx
    | cons x xs =>
      cases ys with
      | nil => simp [TD.fitsL] at hy
      | cons y ys =>
        simp only [TD.fitsL, Bool.and_eq_true] at hx hy
        simp only [tdChkL, Bool.and_eq_true, bne_iff_ne, beq_iff_eq] at ht
        obtain ⟨⟨⟨⟨⟨h1, h2⟩, h3⟩, h4⟩, h5⟩, h6⟩ := ht
        simp only [TD.depthL] at hd
        obtain ⟨c1, c2, rfl, r1, r2⟩ := rx
        obtain ⟨d1, d2, rfl, q1, q2⟩ := ry
        have l1 := RepC.length x c1 r1
        have l2 := RepC.length y d1 q1
        rw [(TD.fits_size f x hx.1).1] at l1
        rw [(TD.fits_size f y hy.1).1] at l2
        obtain ⟨X, p1, p2⟩ := part_rep (off := off) (cs := CS) h3 h4 (by rw [e1, List.take_left' l1]; exact r1) (TD.fits_size f x hx.1).1 (TD.fits_size f x hx.1).2
        obtain ⟨Y, p3, p4⟩ := part_rep (off := off) (cs := DS) h3 h4 (by rw [e2, List.take_left' l2]; exact q1) (TD.fits_size f y hy.1).1 (TD.fits_size f y hy.1).2
        have E := equal_rep P f g.type x y X Y d h5 hx.1 hy.1 p2 p4 (by omega) w
        have IH := equalL_rep P fs gs (off + f.size) xs ys c2 d2 CS DS d h6 hx.2 hy.2 r2 q2 (by rw [← List.drop_drop, e1, List.drop_left' l1]) (by rw [← List.drop_drop, e2, List.drop_left' l2]) (by omega) w
        simp only [Op.eqFields, ne_eq, h1, not_false_eq_true, if_true, h2, Sem.run_bind, p1, p3, Result.andThen_ok, E]
        cases he : x.eq y <;> simp [V.eqL, he, IH]
  | [], _ :: _, _, _, _, _, _, _, _, _, ht, _, _, _, _, _, _, _, _ => by simp [tdChkL] at ht
  | _ :: _, [], _, _, _, _, _, _, _, _, ht, _, _, _, _, _, _, _, _ => by simp [tdChkL] at ht
end
end
end Go.Abs
end

section
namespace Go.Abs
open Go

section
variable {P : Program} {σ : St} {ρ : Nat → V} {a : Act} {o : Oper} {v : V} {c : Prop}

theorem sound_same {x : Opd} (hk : chkPure P o.op (.same x) = true) (I : Inv σ) (hf : RepF σ ρ a) (ht : there ρ [x] = true)
    (he : evp (.same x) (val ρ) σ.H = some (c, v)) : Yields P (execOp a.eval o) σ v := by
  rw [there_cons] at ht
  cases ho : o.op <;> simp only [ho, chkPure] at hk <;> first | (cases hk; done) | skip
  rename_i s d y
  simp only [Bool.and_eq_true, Option.isSome_iff_exists] at hk
  obtain ⟨⟨h1, u, h2⟩, h3⟩ := hk
  have r1 := opd_rep hf h1 ht.1
  simp only [evp] at he
  split at he
  · rename_i l e1
    rw [e1, repV_str] at r1
    simp only [Option.some.injEq, Prod.mk.injEq] at he
    obtain ⟨_, rfl⟩ := he
    refine .same I ?_ (repV_str.2 rfl)
    simp only [execOp, ho, r1, convert, Sem.run_bind, run_underlying h2, run_underlying (strType_spec h3), Result.andThen_ok]
    cases u <;> rfl
  · cases he

theorem sound_not {x : Opd} (hk : chkPure P o.op (.not x) = true) (I : Inv σ) (hf : RepF σ ρ a) (ht : there ρ [x] = true)
    (he : evp (.not x) (val ρ) σ.H = some (c, v)) : Yields P (execOp a.eval o) σ v := by
  rw [there_cons] at ht
  cases ho : o.op <;> simp only [ho, chkPure] at hk <;> first | (cases hk; done) | skip
  rename_i op t y
  cases op <;> simp at hk
  have r1 := opd_rep hf hk ht.1
  simp only [evp] at he
  split at he
  · rename_i b e1
    rw [e1, repV_bool] at r1
    simp only [Option.some.injEq, Prod.mk.injEq] at he
    obtain ⟨_, rfl⟩ := he
    exact .same I (by simp [execOp, ho, r1, Op.unary]) (repV_bool.2 rfl)
  · cases he

theorem sound_un {op : UnOp} {x : Opd} (hk : chkPure P o.op (.un op x) = true) (I : Inv σ) (hf : RepF σ ρ a) (ht : there ρ [x] = true)
    (he : evp (.un op x) (val ρ) σ.H = some (c, v)) : Yields P (execOp a.eval o) σ v := by
  rw [there_cons] at ht
  cases ho : o.op <;> simp only [ho, chkPure] at hk <;> first | (cases hk; done) | skip
  rename_i op' t y
  simp only [Bool.and_eq_true, beq_iff_eq] at hk
  obtain ⟨rfl, h1⟩ := hk
  have r1 := opd_rep hf h1 ht.1
  simp only [evp] at he
  split at he
  · rename_i k n e1
    rw [e1, repV_int] at r1
    simp only [Option.some.injEq, Prod.mk.injEq] at he
    obtain ⟨_, rfl⟩ := he
    exact .same I (by simp only [execOp, ho, r1, Op.unary, Op.intArith, Sem.run_bind, Sem.run_pure, Result.andThen_ok]) (repV_int.2 rfl)
  · rename_i k n e1
    rw [e1, repV_int] at r1
    simp only [Option.some.injEq, Prod.mk.injEq] at he
    obtain ⟨_, rfl⟩ := he
    exact .same I (by simp only [execOp, ho, r1, Op.unary, Op.intBits, Sem.run_bind, Sem.run_pure, Result.andThen_ok]; rfl) (repV_int.2 rfl)
  · cases he

theorem sound_conv {k : IntKind} {x : Opd} (hk : chkPure P o.op (.conv k x) = true) (I : Inv σ) (hf : RepF σ ρ a) (ht : there ρ [x] = true)
    (he : evp (.conv k x) (val ρ) σ.H = some (c, v)) : Yields P (execOp a.eval o) σ v := by
  rw [there_cons] at ht
  cases ho : o.op <;> simp only [ho, chkPure] at hk <;> first | (cases hk; done) | skip
  rename_i s d y
  simp only [Bool.and_eq_true, Option.isSome_iff_exists] at hk
  obtain ⟨⟨h1, u, h2⟩, h3⟩ := hk
  have r1 := opd_rep hf h1 ht.1
  simp only [evp] at he
  split at he
  · rename_i k' n e1
    rw [e1, repV_int] at r1
    simp only [Option.some.injEq, Prod.mk.injEq] at he
    obtain ⟨_, rfl⟩ := he
    refine .same I ?_ (repV_int.2 rfl)
    simp only [execOp, ho, r1, convert, Sem.run_bind, run_underlying h2, run_underlying (intType_spec h3), Result.andThen_ok]
    cases u <;> rfl
  · cases he

theorem sound_eqv {td : TD} {neg : Bool} {x y : Opd} (hk : chkPure P o.op (.eqv td neg x y) = true) (hd : td.depth < 10000) (I : Inv σ) (hf : RepF σ ρ a) (ht : there ρ [x, y] = true)
    (he : evp (.eqv td neg x y) (val ρ) σ.H = some (c, v)) (hc : c) : Yields P (execOp a.eval o) σ v := by
  rw [there_cons, there_cons] at ht
  cases ho : o.op <;> simp only [ho, chkPure] at hk <;> first | (cases hk; done) | skip
  rename_i op t p q ty
  simp only [Bool.and_eq_true, beq_iff_eq, Bool.not_eq_true'] at hk
  obtain ⟨⟨⟨⟨h0, h1⟩, h2⟩, h3⟩, h4⟩ := hk
  have r1 := opd_rep hf h1 ht.1
  have r2 := opd_rep hf h2 ht.2.1
  simp only [evp, Option.some.injEq, Prod.mk.injEq] at he
  obtain ⟨rfl, rfl⟩ := he
  obtain ⟨c1, c2⟩ := hc
  have E := equal_rep P td t _ _ _ _ 10000 h3 c1 c2 r1 r2 hd σ.w
  have hg : (eqGuard op t p q (a.eval p) (a.eval q)).run P σ.w = .ok () σ.w := by
    cases td <;> cases hv : val ρ x <;> rw [hv] at c1 r1 <;> simp only [TD.fits, Bool.false_eq_true] at c1 <;>
      cases hw : val ρ y <;> rw [hw] at c2 r2 <;> simp only [TD.fits, Bool.false_eq_true] at c2
    · rw [repV_int] at r1 r2; rw [r1, r2]; unfold eqGuard; split <;> rfl
    · rw [repV_bool] at r1 r2; rw [r1, r2]; unfold eqGuard; split <;> rfl
    · rw [repV_str] at r1 r2; rw [r1, r2]; unfold eqGuard; split <;> rfl
    · obtain ⟨_, r1, _⟩ := repV_agg.1 r1
      obtain ⟨_, r2, _⟩ := repV_agg.1 r2
      rw [r1, r2]; exact run_eqGuard_agg _ op t p q _ _ h4
    · obtain ⟨_, r1, _⟩ := repV_agg.1 r1
      obtain ⟨_, r2, _⟩ := repV_agg.1 r2
      rw [r1, r2]; exact run_eqGuard_agg _ op t p q _ _ h4
  have hb : ∀ b : Bool, (Op.equalIn 10000 t (a.eval p) (a.eval q)).run P σ.w = .ok b σ.w → (binOp op t (a.eval p) (a.eval q)).run P σ.w = .ok (.bool (if neg then !b else b)) σ.w := by
    intro b hb
    cases td <;> cases hv : val ρ x <;> rw [hv] at c1 r1 <;> simp only [TD.fits, Bool.false_eq_true] at c1 <;>
      cases hw : val ρ y <;> rw [hw] at c2 r2 <;> simp only [TD.fits, Bool.false_eq_true] at c2
    · rw [repV_int] at r1 r2
      rw [r1, r2] at hb ⊢
      simp only [tdChk] at h3
      obtain ⟨u, g1, g2⟩ := isDesc_spec h3
      cases u <;> simp at g2
      simp only [beq_iff_eq] at c1 c2
      subst c1; subst c2
      rw [run_equalIn_int σ.w 9999 t _ _ _ _ g1] at hb
      cases neg <;> simp at h0 <;> subst h0 <;> simp [binOp, Op.intCmp, bne] at hb ⊢ <;> rw [hb]
    · rw [repV_bool] at r1 r2
      rw [r1, r2] at hb ⊢
      cases neg <;> simp at h0 <;> subst h0 <;> simp [binOp, Op.equal, Op.maxDepth, hb]
    · rw [repV_str] at r1 r2
      rw [r1, r2] at hb ⊢
      simp only [tdChk] at h3
      obtain ⟨u, g1, g2⟩ := isDesc_spec h3
      cases u <;> simp at g2
      rw [run_equalIn_string σ.w 9999 t _ _ g1] at hb
      cases neg <;> simp at h0 <;> subst h0 <;> simp [binOp, Op.stringOp] at hb ⊢ <;> rw [hb]
    · obtain ⟨_, r1, _⟩ := repV_agg.1 r1
      obtain ⟨_, r2, _⟩ := repV_agg.1 r2
      rw [r1, r2] at hb ⊢
      cases neg <;> simp at h0 <;> subst h0 <;> simp [binOp, Op.equal, Op.maxDepth, hb]
    · obtain ⟨_, r1, _⟩ := repV_agg.1 r1
      obtain ⟨_, r2, _⟩ := repV_agg.1 r2
      rw [r1, r2] at hb ⊢
      cases neg <;> simp at h0 <;> subst h0 <;> simp [binOp, Op.equal, Op.maxDepth, hb]
  refine .same I (cv := .bool (if neg then !(val ρ x).eq (val ρ y) else (val ρ x).eq (val ρ y))) ?_ (repV_bool.2 rfl)
  simp only [execOp, ho, Sem.run_bind, hg, Result.andThen_ok, hb _ E, Sem.run_pure]

theorem eq_nil_ptr {t u : TypeId} (h : P.underlying t = some (.pointer u)) (d : Nat) (x : Option Addr) (w : World) : (Op.equalIn (d + 1) t (.pointer x) (.pointer none)).run P w = .ok x.isNone w := by
  cases x <;> simp [Op.equalIn, run_underlying h]
theorem eq_nil_map {t u u' : TypeId} (h : P.underlying t = some (.map u u')) (d : Nat) (x : Option Nat) (w : World) : (Op.equalIn (d + 1) t (.map x) (.map none)).run P w = .ok x.isNone w := by
  cases x <;> simp [Op.equalIn, run_underlying h]
theorem eq_nil_fn1 {t : TypeId} {ps rs : Array TypeId} {b : Bool} (h : P.underlying t = some (.func ps rs b)) (d : Nat) (w : World) : (Op.equalIn (d + 1) t .nilFunc .nilFunc).run P w = .ok true w := by
  simp [Op.equalIn, run_underlying h]
theorem eq_nil_fn2 {t : TypeId} {ps rs : Array TypeId} {b : Bool} (h : P.underlying t = some (.func ps rs b)) (d : Nat) (f : Fn) (x y : Array Value) (w : World) : (Op.equalIn (d + 1) t (.func f x y) .nilFunc).run P w = .ok false w := by
  simp [Op.equalIn, run_underlying h]

theorem sound_isNil {k : Nat} {neg : Bool} {x : Opd} (hk : chkPure P o.op (.isNil k neg x) = true) (I : Inv σ) (hf : RepF σ ρ a) (ht : there ρ [x] = true)
    (he : evp (.isNil k neg x) (val ρ) σ.H = some (c, v)) : Yields P (execOp a.eval o) σ v := by
  rw [there_cons] at ht
  cases ho : o.op <;> simp only [ho, chkPure] at hk <;> first | (cases hk; done) | skip
  rename_i op t p q ty
  simp only [Bool.and_eq_true, beq_iff_eq] at hk
  obtain ⟨⟨h0, h2⟩, h3⟩ := hk
  have r1 := opd_rep hf h2 ht.1
  have key : ∀ (X Y : Value) (b : Bool), a.eval p = X → a.eval q = Y → (∀ op, (eqGuard op t p q X Y).run P σ.w = .ok () σ.w) → (Op.equal t X Y).run P σ.w = .ok b σ.w →
      (∀ op, op = .eql ∨ op = .neq → (binOp op t X Y).run P σ.w = ((Op.equal t X Y).run P σ.w).andThen fun b w => .ok (.bool (if op = .eql then b else !b)) w) →
      v = .bool (if neg then !b else b) → Yields P (execOp a.eval o) σ v := by
    intro X Y b e1 e2 hg heq hb hv
    subst hv
    refine .same I (cv := .bool (if neg then !b else b)) ?_ (repV_bool.2 rfl)
    have := hb op (by cases neg <;> simp at h0 <;> simp [h0])
    simp only [execOp, ho, e1, e2, Sem.run_bind, hg, Result.andThen_ok, this, heq, Sem.run_pure]
    cases neg <;> simp at h0 <;> subst h0 <;> simp
  unfold nilKind at h3
  split at h3
  · simp only [Bool.and_eq_true, beq_iff_eq] at h3
    obtain ⟨rfl, h3⟩ := h3
    obtain ⟨u, g1, g2⟩ := isDesc_spec h3
    cases u <;> simp at g2
    have hq : a.eval (.const (.pointer none)) = .pointer none := rfl
    cases hv : val ρ x <;> rw [hv] at r1 <;> simp only [evp, hv, Option.some.injEq, Prod.mk.injEq, reduceCtorEq] at he <;> obtain ⟨_, rfl⟩ := he
    · obtain ⟨sh, o', _, _, e1⟩ := repV_ptr.1 r1
      exact key _ _ false e1 hq (fun op => by unfold eqGuard; split <;> rfl) (eq_nil_ptr g1 9999 _ _) (fun op h => by rcases h with rfl | rfl <;> simp only [binOp, Sem.run_bind, Sem.run_pure, reduceCtorEq, if_true, if_false]) (by cases neg <;> rfl)
    · rw [repV_nilp] at r1
      exact key _ _ true r1 hq (fun op => by unfold eqGuard; split <;> rfl) (eq_nil_ptr g1 9999 _ _) (fun op h => by rcases h with rfl | rfl <;> simp only [binOp, Sem.run_bind, Sem.run_pure, reduceCtorEq, if_true, if_false]) (by cases neg <;> rfl)
    · obtain ⟨b, o', cs, e1, _⟩ := repV_box.1 r1
      exact key _ _ false e1 hq (fun op => by unfold eqGuard; split <;> rfl) (eq_nil_ptr g1 9999 _ _) (fun op h => by rcases h with rfl | rfl <;> simp only [binOp, Sem.run_bind, Sem.run_pure, reduceCtorEq, if_true, if_false]) (by cases neg <;> rfl)
  · simp only [Bool.and_eq_true, beq_iff_eq] at h3
    obtain ⟨rfl, h3⟩ := h3
    obtain ⟨u, g1, g2⟩ := isDesc_spec h3
    cases u <;> simp at g2
    have hq : a.eval (.const (.map none)) = .map none := rfl
    cases hv : val ρ x <;> rw [hv] at r1 <;> simp only [evp, hv, Option.some.injEq, Prod.mk.injEq, reduceCtorEq] at he <;> obtain ⟨_, rfl⟩ := he
    · obtain ⟨_, e1⟩ := repV_map.1 r1
      exact key _ _ false e1 hq (fun op => by unfold eqGuard; split <;> rfl) (eq_nil_map g1 9999 _ _) (fun op h => by rcases h with rfl | rfl <;> simp only [binOp, Sem.run_bind, Sem.run_pure, reduceCtorEq, if_true, if_false]) (by cases neg <;> rfl)
    · rw [repV_nilmap] at r1
      exact key _ _ true r1 hq (fun op => by unfold eqGuard; split <;> rfl) (eq_nil_map g1 9999 _ _) (fun op h => by rcases h with rfl | rfl <;> simp only [binOp, Sem.run_bind, Sem.run_pure, reduceCtorEq, if_true, if_false]) (by cases neg <;> rfl)
    · obtain ⟨b, es, clk, e1, _⟩ := repV_mapv.1 r1
      exact key _ _ false e1 hq (fun op => by unfold eqGuard; split <;> rfl) (eq_nil_map g1 9999 _ _) (fun op h => by rcases h with rfl | rfl <;> simp only [binOp, Sem.run_bind, Sem.run_pure, reduceCtorEq, if_true, if_false]) (by cases neg <;> rfl)
  · simp only [Bool.and_eq_true, beq_iff_eq] at h3
    obtain ⟨rfl, h3⟩ := h3
    obtain ⟨u, g1, g2⟩ := isDesc_spec h3
    cases u <;> simp at g2
    have hq : a.eval (.const .nilFunc) = .nilFunc := rfl
    cases hv : val ρ x <;> rw [hv] at r1 <;> simp only [evp, hv, Option.some.injEq, Prod.mk.injEq, reduceCtorEq] at he <;> obtain ⟨_, rfl⟩ := he
    · obtain ⟨cf, cc, e1, _⟩ := repV_fn.1 r1
      exact key _ _ false e1 hq (fun op => by unfold eqGuard; split <;> rfl) (eq_nil_fn2 g1 9999 _ _ _ _) (fun op h => by rcases h with rfl | rfl <;> simp only [binOp, Sem.run_bind, Sem.run_pure, reduceCtorEq, if_true, if_false]) (by cases neg <;> rfl)
    · rw [repV_nilfn] at r1
      exact key _ _ true r1 hq (fun op => by unfold eqGuard; split <;> rfl) (eq_nil_fn1 g1 9999 _) (fun op h => by rcases h with rfl | rfl <;> simp only [binOp, Sem.run_bind, Sem.run_pure, reduceCtorEq, if_true, if_false]) (by cases neg <;> rfl)
  · cases h3
end
end Go.Abs
end
