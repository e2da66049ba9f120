/-
  Abstract code against the model's: pure operations, the fifth part: places, pieces, lengths. Abstract code against the model's: pure operations, the sixth part: bytes and texts, lengths, aggregates.
  Conditions: those that stand ahead of each theorem; no more.
-/
import Derived.Laws.BytesArg
import Derived.Test.YtblnejkfaniljaaGreatDoorT04

section
namespace Go.Abs
open Go

theorem RepE.get {σ : St} {sz : Nat} : ∀ {xs : List V} {b o i : Nat} {x : V}, RepE σ sz xs b o → xs[i]? = some x → ∃ c, c.length = sz ∧ RepC σ x c ∧ σ.has b (o + i * sz) c
  | [], _, _, _, _, _, h => by simp at h
  | y :: ys, b, o, 0, x, hr, h => by
    have : y = x := by simpa using h
    subst this
    simpa using hr.1
  | y :: ys, b, o, i + 1, x, hr, h => by
    obtain ⟨c, h1, h2, h3⟩ := RepE.get hr.2 (by simpa using h : ys[i]? = some x)
    exact ⟨c, h1, h2, by rw [Nat.add_mul, Nat.one_mul, Nat.add_comm (i * sz), ← Nat.add_assoc]; exact h3⟩

theorem RepE.drop {σ : St} {sz : Nat} : ∀ {xs : List V} {b o : Nat} (i : Nat), RepE σ sz xs b o → RepE σ sz (xs.drop i) b (o + i * sz)
  | [], _, _, _, _ => by simp [RepE]
  | y :: ys, b, o, 0, h => by simpa using h
  | y :: ys, b, o, i + 1, h => by
    have := RepE.drop i h.2
    simp only [List.drop_succ_cons]
    rw [Nat.add_mul, Nat.one_mul, Nat.add_comm (i * sz), ← Nat.add_assoc]; exact this

theorem RepE.take {σ : St} {sz : Nat} : ∀ {xs : List V} {b o : Nat} (i : Nat), RepE σ sz xs b o → RepE σ sz (xs.take i) b o
  | [], _, _, _, _ => by simp [RepE]
  | y :: ys, b, o, 0, h => by simp [RepE]
  | y :: ys, b, o, i + 1, h => ⟨h.1, RepE.take i h.2⟩

theorem Sh.off_snoc {l : List Sh} {k : Nat} (hk : k < l.length) : ∀ {p : List Nat} {sh : Sh} {o : Nat}, sh.at p = some (.agg l) → sh.off p = some o → sh.off (p ++ [k]) = some (o + Sh.sizeL (l.take k))
  | [], sh, o, h1, h2 => by
    cases sh <;> simp [Sh.at] at h1
    subst h1
    simp only [Sh.off, Option.some.injEq] at h2
    subst h2
    simp [Sh.off, List.getElem?_eq_getElem hk]
  | i :: p, .one, o, h1, h2 => by simp [Sh.at] at h1
  | i :: p, .agg m, o, h1, h2 => by
    simp only [Sh.at] at h1
    simp only [Sh.off] at h2
    split at h1
    · rename_i s hs
      simp only [hs, Option.map_eq_some_iff] at h2
      obtain ⟨o3, h4, h5⟩ := h2
      simp only [List.cons_append, Sh.off, hs, Sh.off_snoc hk h1 h4, Option.map_some]
      rw [← h5, Nat.add_assoc]
    · cases h1

theorem Sh.sizeL_const {sz : Nat} : ∀ {l : List Sh} {k : Nat}, (∀ s ∈ l, s.size = sz) → k ≤ l.length → Sh.sizeL (l.take k) = k * sz
  | [], k, _, hk => by simp at hk; subst hk; simp [Sh.sizeL]
  | s :: l, 0, _, _ => by simp [Sh.sizeL]
  | s :: l, k + 1, h, hk => by
    simp only [List.take_succ_cons, Sh.sizeL, h s (by simp), Sh.sizeL_const (fun x hx => h x (by simp [hx])) (show k ≤ l.length by simpa using hk), Nat.add_mul]
    omega

theorem V.at_shape : ∀ {p : List Nat} {v y : V}, v.at p = some y → v.shape.at p = some y.shape
  | [], v, y, h => by cases v <;> simp [V.at] at h <;> subst h <;> simp [Sh.at]
  | i :: p, v, y, h => by
    cases v <;> simp only [V.at, reduceCtorEq] at h
    split at h
    · rename_i x hx
      rw [V.shape_agg]
      simp only [Sh.at, V.shapeL_get hx, V.at_shape h]
    · cases h

theorem Sh.off_of_at : ∀ {p : List Nat} {sh s : Sh}, sh.at p = some s → ∃ o, sh.off p = some o
  | [], sh, s, _ => ⟨0, by cases sh <;> rfl⟩
  | i :: p, .one, s, h => by simp [Sh.at] at h
  | i :: p, .agg l, s, h => by
    simp only [Sh.at] at h
    split at h
    · rename_i x hx
      obtain ⟨o, ho⟩ := Sh.off_of_at h
      exact ⟨_, by simp only [Sh.off, hx, ho, Option.map_some]; rfl⟩
    · cases h

theorem uniform_shape {xs : List V} {sz : Nat} (h : ∀ x ∈ xs, x.shape.size = sz) : ∀ s ∈ V.shapeL xs, s.size = sz := by
  rw [V.shapeL_eq]
  intro s hs
  obtain ⟨x, hx, rfl⟩ := List.mem_map.1 hs
  exact h x hx

section
variable {P : Program} {σ : St} {ρ : Nat → V} {a : Act} {o : Oper} {v : V} {c : Prop}

theorem sound_iaddr {sz : Nat} {x i : Opd} (hk : chkPure P o.op (.iaddr sz x i) = true) (I : Inv σ) (hf : RepF σ ρ a) (ht : there ρ [x, i] = true)
    (he : evp (.iaddr sz x i) (val ρ) σ.H = some (c, v)) (hc : c) : Yields P (execOp a.eval o) σ v := by
  rw [there_cons, there_cons] at ht
  cases ho : o.op <;> simp only [ho, chkPure] at hk <;> first | (cases hk; done) | skip
  rename_i t x' i'
  simp only [Bool.and_eq_true] at hk
  obtain ⟨⟨h1, h2⟩, h3⟩ := hk
  obtain ⟨e, h4, h5⟩ := sliceOf_spec h3
  have r1 := opd_rep hf h1 ht.1
  have r2 := opd_rep hf h2 ht.2.1
  have hrun : ∀ (b o' n cap : Nat) (k : IntKind) (m : Int), 0 ≤ m → m < n → ∀ w, (Instr.indexAt t (.slice (some ⟨b, o', none⟩) n cap) (.int k m)).run P w = .ok (.pointer (some ⟨b, o' + m.toNat * sz, none⟩)) w := by
    intro b o' n cap k m hm1 hm2 w
    simp [Instr.indexAt, asIntOf, run_underlying h4, hm1, hm2, run_size h5, Addr.add_none]
  simp only [evp] at he
  split at he
  · rename_i sz' xs tk k m e1 e2
    rw [e1] at r1; rw [e2, repV_int] at r2
    simp only [Option.some.injEq, Prod.mk.injEq] at he
    obtain ⟨rfl, rfl⟩ := he
    obtain ⟨rfl, c1, c2⟩ := hc
    obtain ⟨ad, cap, g1, g2, g3, g4⟩ := repV_sl.1 r1
    have hlt : m.toNat < xs.length := by omega
    rcases g4 with g4 | ⟨b, o', rfl, g4⟩
    · subst g4; simp at hlt
    · obtain ⟨cs, k1, k2, k3⟩ := RepE.get g4 (List.getElem?_eq_getElem hlt)
      refine .same I ?_ (repV_box.2 ⟨b, _, cs, rfl, by rw [List.getD_eq_getElem?_getD, List.getElem?_eq_getElem hlt]; exact k2, k3⟩)
      simp [execOp, ho, g1, r2, hrun _ _ _ _ _ _ c1 c2]
  · rename_i t' p off len sz' k m e1 e2
    rw [e1] at r1; rw [e2, repV_int] at r2
    simp only [Option.some.injEq, Prod.mk.injEq] at he
    obtain ⟨rfl, rfl⟩ := he
    obtain ⟨rfl, c1, c2⟩ := hc
    obtain ⟨sh, o', l, cap, ad, g1, g2, g3, g4, g5, g6, g8, g7⟩ := repV_arr.1 r1
    have hlt : off + m.toNat < l.length := by omega
    rw [g8 (by omega)] at g7
    refine .same I ?_ (repV_ptr.2 ⟨sh, o' + (off + m.toNat) * sz', g1, ?_, rfl⟩)
    · simp [execOp, ho, g7, r2, hrun _ _ _ _ _ _ c1 c2, Nat.add_mul, Nat.add_assoc]
    · rw [Sh.off_snoc hlt g2 g3, Sh.sizeL_const g4 (by omega)]
  · cases he

theorem sound_iaddrA {n sz : Nat} {x i : Opd} (hk : chkPure P o.op (.iaddrA n sz x i) = true) (I : Inv σ) (hf : RepF σ ρ a) (ht : there ρ [x, i] = true)
    (he : evp (.iaddrA n sz x i) (val ρ) σ.H = some (c, v)) (hc : c) : Yields P (execOp a.eval o) σ v := by
  rw [there_cons, there_cons] at ht
  cases ho : o.op <;> simp only [ho, chkPure] at hk <;> first | (cases hk; done) | skip
  rename_i t x' i'
  simp only [Bool.and_eq_true] at hk
  obtain ⟨⟨h1, h2⟩, h3⟩ := hk
  obtain ⟨e, h4, h5⟩ := arrayOf_spec h3
  have r1 := opd_rep hf h1 ht.1
  have r2 := opd_rep hf h2 ht.2.1
  have hrun : ∀ (b o' : Nat) (k : IntKind) (m : Int), 0 ≤ m → m < n → ∀ w, (Instr.indexAt t (.pointer (some ⟨b, o', none⟩)) (.int k m)).run P w = .ok (.pointer (some ⟨b, o' + m.toNat * sz, none⟩)) w := by
    intro b o' k m hm1 hm2 w
    simp [Instr.indexAt, asIntOf, run_underlying h4, hm1, hm2, run_size h5, Addr.add_none, Instr.sureAddr]
  simp only [evp] at he
  split at he
  · rename_i t' p k m e1 e2
    rw [e1] at r1; rw [e2, repV_int] at r2
    split at he
    · rename_i u hu
      split at he
      · rename_i xs hy
        simp only [Option.some.injEq, Prod.mk.injEq] at he
        obtain ⟨rfl, rfl⟩ := he
        obtain ⟨c0, c1, c2, c3⟩ := hc
        obtain ⟨sh, o', g1, g2, g3⟩ := repV_ptr.1 r1
        rw [shapeAt_cell hu] at g1
        cases g1
        have hat := V.at_shape hy
        rw [V.shape_agg] at hat
        have hlt : m.toNat < (V.shapeL xs).length := by rw [V.shapeL_length]; omega
        refine .same I ?_ (repV_ptr.2 ⟨_, o' + m.toNat * sz, shapeAt_cell hu, ?_, rfl⟩)
        · simp [execOp, ho, g3, r2, hrun _ _ _ _ c2 c3]
        · rw [Sh.off_snoc hlt hat g2, Sh.sizeL_const (uniform_shape c1) (by omega)]
      · cases he
    · cases he
  · rename_i xs k m e1 e2
    rw [e1] at r1; rw [e2, repV_int] at r2
    simp only [Option.some.injEq, Prod.mk.injEq] at he
    obtain ⟨rfl, rfl⟩ := he
    obtain ⟨c0, c1, c2, c3⟩ := hc
    obtain ⟨b, o', cs, g1, g2, g3⟩ := repV_box.1 r1
    have g2' : RepL σ xs cs := g2
    have hlt : m.toNat < xs.length := by omega
    have hget := List.getElem?_eq_getElem hlt
    have e3 : Sh.sizeL (V.shapeL (xs.take m.toNat)) = m.toNat * sz := by
      rw [← V.shapeL_take, Sh.sizeL_const (uniform_shape c1) (by rw [V.shapeL_length]; omega)]
    have k1 := RepL.get g2' hget
    have k2 := RepL.get_le g2' hget
    rw [e3] at k1 k2
    refine .same I ?_ (repV_box.2 ⟨b, o' + m.toNat * sz, _, rfl, by rw [List.getD_eq_getElem?_getD, hget]; exact k1, fun k hk => ?_⟩)
    · simp [execOp, ho, g1, r2, hrun _ _ _ _ c2 c3]
    · simp only [List.length_take, List.length_drop] at hk
      have := g3 (m.toNat * sz + k) (by omega)
      simp only [List.getElem_take, List.getElem_drop]
      rw [Nat.add_assoc]
      exact this
  · cases he

theorem sound_idxS {x i : Opd} (hk : chkPure P o.op (.idxS x i) = true) (I : Inv σ) (hf : RepF σ ρ a) (ht : there ρ [x, i] = true)
    (he : evp (.idxS x i) (val ρ) σ.H = some (c, v)) (hc : c) : Yields P (execOp a.eval o) σ v := by
  rw [there_cons, there_cons] at ht
  cases ho : o.op <;> simp only [ho, chkPure] at hk <;> first | (cases hk; done) | skip
  rename_i t x' i'
  simp only [Bool.and_eq_true] at hk
  obtain ⟨⟨h1, h2⟩, h3⟩ := hk
  have r1 := opd_rep hf h1 ht.1
  have r2 := opd_rep hf h2 ht.2.1
  simp only [evp] at he
  split at he
  · rename_i s k m e1 e2
    rw [e1, repV_str] at r1; rw [e2, repV_int] at r2
    simp only [Option.some.injEq, Prod.mk.injEq] at he
    obtain ⟨rfl, rfl⟩ := he
    obtain ⟨c1, c2⟩ := hc
    have hlt : m.toNat < s.length := by omega
    have hb : (ByteArray.mk s.toArray)[m.toNat]? = some s[m.toNat] := by
      rw [ByteArray.getElem?_lt' _ _ (by simpa [ByteArray.size] using hlt)]
      rfl
    refine .same I (cv := .int .u8 (s[m.toNat].toNat : Int)) ?_ (by rw [byteV, repV_int, List.getD_eq_getElem?_getD, List.getElem?_eq_getElem hlt]; rfl)
    simp only [execOp, ho, r1, r2, Instr.index, asIntOf, Sem.run_bind, Sem.run_pure, Result.andThen_ok, run_underlying (strType_spec h3), c1, if_true, hb]
  · cases he

theorem sound_idxA {n sz : Nat} {ag : Bool} {x i : Opd} (hk : chkPure P o.op (.idxA n sz ag x i) = true) (I : Inv σ) (hf : RepF σ ρ a) (ht : there ρ [x, i] = true)
    (he : evp (.idxA n sz ag x i) (val ρ) σ.H = some (c, v)) (hc : c) : Yields P (execOp a.eval o) σ v := by
  rw [there_cons, there_cons] at ht
  cases ho : o.op <;> simp only [ho, chkPure] at hk <;> first | (cases hk; done) | skip
  rename_i t x' i'
  simp only [Bool.and_eq_true] at hk
  obtain ⟨⟨h1, h2⟩, h3⟩ := hk
  have r1 := opd_rep hf h1 ht.1
  have r2 := opd_rep hf h2 ht.2.1
  simp only [evp] at he
  split at he
  · rename_i xs k m e1 e2
    rw [e1] at r1; rw [e2, repV_int] at r2
    simp only [Option.some.injEq, Prod.mk.injEq] at he
    obtain ⟨rfl, rfl⟩ := he
    obtain ⟨c0, c1, c2, c3⟩ := hc
    obtain ⟨cs, g1, g2⟩ := repV_agg.1 r1
    unfold arrayOfA at h3
    split at h3
    · rename_i q e hu
      simp only [Bool.and_eq_true, beq_iff_eq] at h3
      obtain ⟨⟨rfl, h4⟩, h5⟩ := h3
      have hlt : m.toNat < xs.length := by omega
      have hget := List.getElem?_eq_getElem hlt
      have e3 : Sh.sizeL (V.shapeL (xs.take m.toNat)) = m.toNat * sz := by
        rw [← V.shapeL_take, Sh.sizeL_const (uniform_shape fun x hx => (c1 x hx).1) (by rw [V.shapeL_length]; omega)]
      have k1 := RepL.get g2 hget
      rw [e3, (c1 _ (List.getElem_mem hlt)).1] at k1
      obtain ⟨cv, k2, k3⟩ := part_rep h4 h5 k1 (c1 _ (List.getElem_mem hlt)).1 (c1 _ (List.getElem_mem hlt)).2
      refine .same I ?_ (cv := cv) (by rw [List.getD_eq_getElem?_getD, hget]; exact k3)
      simp [execOp, ho, g1, r2, Instr.index, asIntOf, run_underlying hu, c2, c3, run_size h4, k2]
    · cases h3
  · cases he

theorem opt_rep {x : Option Operand} {y : Option Opd} (hc : chkOpt x y = true) (hf : RepF σ ρ a) (ht : there ρ y.toList = true) {d l : Int} (hb : bnd (val ρ) d y = some l) :
    (x = none ∧ l = d) ∨ ∃ k, ∃ u, x = some u ∧ a.eval u = .int k l := by
  cases x <;> cases y <;> simp only [chkOpt, Bool.false_eq_true] at hc
  · simp only [bnd, Option.some.injEq] at hb; exact .inl ⟨rfl, hb.symm⟩
  · rename_i u y
    simp only [Option.toList_some] at ht
    rw [there_cons] at ht
    have r := opd_rep hf hc ht.1
    simp only [bnd] at hb
    split at hb
    · rename_i k n e
      rw [e, repV_int] at r
      cases hb
      exact .inr ⟨k, u, rfl, r⟩
    · cases hb

theorem run_bound (k : IntKind) (n : Int) (y : Nat) (code : BoundsCode) (h1 : 0 ≤ n) (h2 : n ≤ y) (w : World) : (Instr.sliceBound (.int k n) y code).run P w = .ok n.toNat w := by
  simp [Instr.sliceBound, asIntOf, h1, h2]

/-- The bounds of a piece, run. -/
theorem run_bounds {lo hi : Option Operand} {lo' hi' : Option Opd} (h1 : chkOpt lo lo' = true) (h2 : chkOpt hi hi' = true) (hf : RepF σ ρ a) (t1 : there ρ lo'.toList = true) (t2 : there ρ hi'.toList = true) {l h : Int} {len cap : Nat}
    (hl : bnd (val ρ) 0 lo' = some l) (hh : bnd (val ρ) len hi' = some h) (b1 : 0 ≤ l) (b2 : l ≤ h) (b3 : h ≤ len) (hcap : len ≤ cap) (s : Bool) (w : World) :
    (Instr.sliceBounds s len cap (lo.map a.eval) (hi.map a.eval) none).run P w = .ok (l.toNat, h.toNat, cap) w := by
  unfold Instr.sliceBounds
  rcases opt_rep h1 hf t1 hl with ⟨rfl, rfl⟩ | ⟨k, u, rfl, e1⟩ <;> rcases opt_rep h2 hf t2 hh with ⟨rfl, rfl⟩ | ⟨k', u', rfl, e2⟩
  · simp
  · simp [e2, run_bound k' h cap _ (by omega) (by omega)]
  · simp [e1, run_bound k l len _ b1 (by omega)]
  · simp [e1, e2, run_bound k' h cap _ (by omega) (by omega), run_bound k l h.toNat _ b1 (by omega)]

theorem there_app {xs ys : List Opd} : there ρ (xs ++ ys) = true ↔ there ρ xs = true ∧ there ρ ys = true := by
  induction xs with
  | nil => simp [there]
  | cons x xs ih => simp [there, ih, and_assoc]

theorem sound_sliceS {x : Opd} {lo hi : Option Opd} (hk : chkPure P o.op (.sliceS x lo hi) = true) (I : Inv σ) (hf : RepF σ ρ a) (ht : there ρ (x :: (lo.toList ++ hi.toList)) = true)
    (he : evp (.sliceS x lo hi) (val ρ) σ.H = some (c, v)) (hc : c) : Yields P (execOp a.eval o) σ v := by
  rw [there_cons, there_app] at ht
  cases ho : o.op <;> simp only [ho, chkPure] at hk <;> first | (cases hk; done) | skip
  rename_i t x' l' h' m'
  cases m' <;> simp only [Bool.false_eq_true, Bool.and_eq_true] at hk
  obtain ⟨⟨⟨h1, h2⟩, h3⟩, h4⟩ := hk
  have r1 := opd_rep hf h1 ht.1
  simp only [evp] at he
  split at he
  · rename_i s e1
    rw [e1, repV_str] at r1
    split at he
    · rename_i l h e2 e3
      simp only [Option.some.injEq, Prod.mk.injEq] at he
      obtain ⟨rfl, rfl⟩ := he
      obtain ⟨c1, c2, c3⟩ := hc
      have hb := run_bounds (P := P) h2 h3 hf ht.2.1 ht.2.2 e2 e3 c1 c2 c3 (Nat.le_refl _) false σ.w
      refine .same I (cv := .string ⟨((s.take h.toNat).drop l.toNat).toArray⟩) ?_ (repV_str.2 rfl)
      have hu := strType_spec h4
      have hs : (ByteArray.mk s.toArray).size = s.length := by simp [ByteArray.size]
      simp only [execOp, ho, r1, Instr.sliceAt, Sem.run_bind, run_underlying hu, Result.andThen_ok, Instr.slice, Option.map_none, Option.isSome_none, Bool.false_eq_true, if_false, hs, hb, Sem.run_pure, ByteArray.extract_mk]
      rw [List.drop_take]
    · cases he
  · cases he

theorem sound_slice {sz : Nat} {x : Opd} {lo hi : Option Opd} (hk : chkPure P o.op (.slice sz x lo hi) = true) (I : Inv σ) (hf : RepF σ ρ a) (ht : there ρ (x :: (lo.toList ++ hi.toList)) = true)
    (he : evp (.slice sz x lo hi) (val ρ) σ.H = some (c, v)) (hc : c) : Yields P (execOp a.eval o) σ v := by
  rw [there_cons, there_app] at ht
  cases ho : o.op <;> simp only [ho, chkPure] at hk <;> first | (cases hk; done) | skip
  rename_i t x' l' h' m'
  cases m' <;> simp only [Bool.false_eq_true, Bool.and_eq_true] at hk
  obtain ⟨⟨⟨h1, h2⟩, h3⟩, h4⟩ := hk
  obtain ⟨e, hu, hsz⟩ := sliceOf_spec h4
  have r1 := opd_rep hf h1 ht.1
  simp only [evp] at he
  split at he
  · rename_i sz' xs tk e1
    rw [e1] at r1
    split at he
    · rename_i l h e2 e3
      simp only [Option.some.injEq, Prod.mk.injEq] at he
      obtain ⟨rfl, rfl⟩ := he
      obtain ⟨rfl, c1, c2, c3⟩ := hc
      obtain ⟨ad, cap, g1, g2, g3, g4⟩ := repV_sl.1 r1
      have hb := run_bounds (P := P) h2 h3 hf ht.2.1 ht.2.2 e2 e3 c1 c2 c3 g2 true σ.w
      have hlen : ((xs.take h.toNat).drop l.toNat).length = h.toNat - l.toNat := by simp; omega
      refine .same I (cv := .slice (if cap = l.toNat then ad else ad.map (·.add (l.toNat * sz'))) (h.toNat - l.toNat) (cap - l.toNat)) ?_ (repV_sl.2 ⟨_, _, by rw [hlen], by rw [hlen]; omega, ?_, ?_⟩)
      · simp only [execOp, ho, g1, Instr.sliceAt, Sem.run_bind, run_underlying hu, Result.andThen_ok, Instr.slice, Option.map_none, hb, run_size hsz, Sem.run_pure]
      · rw [hlen]
        unfold pieceTok
        cases tk with
        | full =>
          cases hi with
          | none =>
            simp only [bnd, Option.some.injEq] at e3
            have : cap = xs.length := g3
            show cap - l.toNat = h.toNat - l.toNat
            omega
          | some _ => trivial
        | view => trivial
        | row _ => trivial
      · by_cases hnil : (xs.take h.toNat).drop l.toNat = []
        · exact .inl hnil
        · refine .inr ?_
          have hlt : l.toNat < h.toNat := by
            rcases Nat.lt_or_ge l.toNat h.toNat with hh | hh
            · exact hh
            · exact absurd (List.eq_nil_of_length_eq_zero (by rw [hlen]; omega)) hnil
          rcases g4 with g4 | ⟨b, o', rfl, g4⟩
          · subst g4; simp at hnil
          · refine ⟨b, o' + l.toNat * sz', ?_, RepE.drop _ (RepE.take _ g4)⟩
            rw [if_neg (by omega)]
            simp [Addr.add_none]
    · cases he
  · rename_i t' p off len sz' e1
    rw [e1] at r1
    split at he
    · rename_i l h e2 e3
      simp only [Option.some.injEq, Prod.mk.injEq] at he
      obtain ⟨rfl, rfl⟩ := he
      obtain ⟨rfl, c1, c2, c3⟩ := hc
      obtain ⟨sh, o', ll, cap, ad, g1, g2, g3, g4, g5, g6, g8, g7⟩ := repV_arr.1 r1
      have hb := run_bounds (P := P) h2 h3 hf ht.2.1 ht.2.2 e2 e3 c1 c2 c3 g6 true σ.w
      refine .same I (cv := .slice (if cap = l.toNat then ad else ad.map (·.add (l.toNat * sz'))) (h.toNat - l.toNat) (cap - l.toNat)) ?_
        (repV_arr.2 ⟨sh, o', ll, cap - l.toNat, _, g1, g2, g3, g4, by omega, by omega, fun hpos => ?_, rfl⟩)
      · simp only [execOp, ho, g7, Instr.sliceAt, Sem.run_bind, run_underlying hu, Result.andThen_ok, Instr.slice, Option.map_none, hb, run_size hsz, Sem.run_pure]
      · rw [if_neg (by omega), g8 (by omega)]
        simp only [Option.map_some, Addr.add_none]
        rw [Nat.add_mul, Nat.add_assoc]
    · cases he
  · cases he

theorem sound_slice3 {sz : Nat} {x hi mx : Opd} {lo : Option Opd} (hk : chkPure P o.op (.slice3 sz x lo hi mx) = true) (I : Inv σ) (hf : RepF σ ρ a) (ht : there ρ (x :: (lo.toList ++ [hi, mx])) = true)
    (he : evp (.slice3 sz x lo hi mx) (val ρ) σ.H = some (c, v)) (hc : c) : Yields P (execOp a.eval o) σ v := by
  rw [there_cons, there_app, there_cons, there_cons] at ht
  cases ho : o.op <;> simp only [ho, chkPure] at hk <;> first | (cases hk; done) | skip
  rename_i t x' l' h' m'
  cases h' <;> cases m' <;> simp only [Bool.false_eq_true, Bool.and_eq_true] at hk
  rename_i h' m'
  obtain ⟨⟨⟨⟨h1, h2⟩, h3⟩, h3'⟩, h4⟩ := hk
  obtain ⟨e, hu, hsz⟩ := sliceOf_spec h4
  have r1 := opd_rep hf h1 ht.1
  have r3 := opd_rep hf h3 ht.2.2.1
  have r4 := opd_rep hf h3' ht.2.2.2.1
  simp only [evp] at he
  split at he
  · rename_i sz' xs tk e1
    rw [e1] at r1
    split at he
    · rename_i l k h k' m e2 e3 e4
      rw [e3, repV_int] at r3
      rw [e4, repV_int] at r4
      simp only [Option.some.injEq, Prod.mk.injEq] at he
      obtain ⟨rfl, rfl⟩ := he
      obtain ⟨rfl, c1, c2, rfl, c3⟩ := hc
      obtain ⟨ad, cap, g1, g2, g3, g4⟩ := repV_sl.1 r1
      have hb : (Instr.sliceBounds true xs.length cap (l'.map a.eval) (some (a.eval h')) (some (a.eval m'))).run P σ.w = .ok (l.toNat, h.toNat, h.toNat) σ.w := by
        unfold Instr.sliceBounds
        rcases opt_rep h2 hf ht.2.1 e2 with ⟨rfl, rfl⟩ | ⟨kq, u, rfl, e1⟩
        · simp [r3, r4, run_bound k' h cap _ (by omega) (by omega), run_bound k h h.toNat _ (by omega) (by omega)]
        · simp [e1, r3, r4, run_bound k' h cap _ (by omega) (by omega), run_bound k h h.toNat _ (by omega) (by omega), run_bound kq l h.toNat _ (by omega) (by omega)]
      have hlen : ((xs.take h.toNat).drop l.toNat).length = h.toNat - l.toNat := by simp; omega
      refine .same I (cv := .slice (if h.toNat = l.toNat then ad else ad.map (·.add (l.toNat * sz'))) (h.toNat - l.toNat) (h.toNat - l.toNat)) ?_ (repV_sl.2 ⟨_, _, by rw [hlen], by rw [hlen]; omega, ?_, ?_⟩)
      · simp only [execOp, ho, g1, Instr.sliceAt, Sem.run_bind, run_underlying hu, Result.andThen_ok, Instr.slice, Option.map_some, hb, run_size hsz, Sem.run_pure]
      · rw [hlen]; rfl
      · by_cases hnil : (xs.take h.toNat).drop l.toNat = []
        · exact .inl hnil
        · refine .inr ?_
          have hlt : l.toNat < h.toNat := by
            rcases Nat.lt_or_ge l.toNat h.toNat with hh | hh
            · exact hh
            · exact absurd (List.eq_nil_of_length_eq_zero (by rw [hlen]; omega)) hnil
          rcases g4 with g4 | ⟨b, o', rfl, g4⟩
          · subst g4; simp at hnil
          · refine ⟨b, o' + l.toNat * sz', ?_, RepE.drop _ (RepE.take _ g4)⟩
            rw [if_neg (by omega)]
            simp [Addr.add_none]
    · cases he
  · cases he

theorem sound_sliceA {n sz : Nat} {x : Opd} {lo hi : Option Opd} (hk : chkPure P o.op (.sliceA n sz x lo hi) = true) (I : Inv σ) (hf : RepF σ ρ a) (ht : there ρ (x :: (lo.toList ++ hi.toList)) = true)
    (he : evp (.sliceA n sz x lo hi) (val ρ) σ.H = some (c, v)) (hc : c) : Yields P (execOp a.eval o) σ v := by
  rw [there_cons, there_app] at ht
  cases ho : o.op <;> simp only [ho, chkPure] at hk <;> first | (cases hk; done) | skip
  rename_i t x' l' h' m'
  cases m' <;> simp only [Bool.false_eq_true, Bool.and_eq_true] at hk
  obtain ⟨⟨⟨h1, h2⟩, h3⟩, h4⟩ := hk
  obtain ⟨e, hu, hsz⟩ := arrayOf_spec h4
  have r1 := opd_rep hf h1 ht.1
  simp only [evp] at he
  split at he
  · rename_i t' p e1
    rw [e1] at r1
    split at he
    · rename_i u hu'
      split at he
      · rename_i xs hy
        split at he
        · rename_i l h e2 e3
          simp only [Option.some.injEq, Prod.mk.injEq] at he
          obtain ⟨rfl, rfl⟩ := he
          obtain ⟨c0, c1, c2, c3, c4⟩ := hc
          obtain ⟨sh, o', g1, g2, g3⟩ := repV_ptr.1 r1
          rw [shapeAt_cell hu'] at g1
          cases g1
          have hat := V.at_shape hy
          rw [V.shape_agg] at hat
          have hb := run_bounds (P := P) h2 h3 hf ht.2.1 ht.2.2 e2 e3 c2 c3 c4 (Nat.le_refl _) false σ.w
          refine .same I (cv := .slice (some (if n = l.toNat then ⟨σ.g.b t', o', none⟩ else ⟨σ.g.b t', o' + l.toNat * sz, none⟩)) (h.toNat - l.toNat) (n - l.toNat)) ?_
            (repV_arr.2 ⟨_, o', _, n - l.toNat, _, shapeAt_cell hu', hat, g2, uniform_shape c1, by rw [V.shapeL_length]; omega, by omega, fun hpos => by rw [if_neg (by omega)], rfl⟩)
          simp only [execOp, ho, g3, Instr.sliceAt, Sem.run_bind, run_underlying hu, Result.andThen_ok, Instr.sureAddr, Option.map_none, hb, run_size hsz, Sem.run_pure, Addr.add_none]
        · cases he
      · cases he
    · cases he
  · cases he
end
end Go.Abs
end

section
namespace Go.Abs
open Go

theorem RepE.flat {σ : St} {sz : Nat} : ∀ {xs : List V} {b o : Nat}, RepE σ sz xs b o → (∀ x ∈ xs, x.shape.size = sz) ∧ ∃ cs, RepL σ xs cs ∧ σ.has b o cs
  | [], b, o, _ => ⟨by simp, [], rfl, fun k hk => by simp at hk⟩
  | x :: xs, b, o, h => by
    obtain ⟨⟨c, h1, h2, h3⟩, h4⟩ := h
    obtain ⟨h5, cs, h6, h7⟩ := RepE.flat h4
    refine ⟨?_, c ++ cs, ⟨c, cs, rfl, h2, h6⟩, ?_⟩
    · intro y hy
      rcases List.mem_cons.1 hy with rfl | hy
      · rw [← RepC.length y c h2]; exact h1
      · exact h5 y hy
    · intro k hk
      rcases Nat.lt_or_ge k c.length with hk' | hk'
      · rw [List.getElem_append_left hk']; exact h3 k hk'
      · rw [List.getElem_append_right hk']
        have := h7 (k - c.length) (by simp at hk; omega)
        rw [show o + sz + (k - c.length) = o + k by omega] at this
        exact this

theorem RepE.mk {σ : St} {sz : Nat} : ∀ {xs : List V} {b o : Nat} {cs : List Value}, (∀ x ∈ xs, x.shape.size = sz) → RepL σ xs cs → σ.has b o cs → RepE σ sz xs b o
  | [], _, _, _, _, _, _ => trivial
  | x :: xs, b, o, _, hs, ⟨c, d, rfl, h1, h2⟩, h3 => by
    have hl : c.length = sz := by rw [RepC.length x c h1]; exact hs x (by simp)
    refine ⟨⟨c, hl, h1, fun k hk => ?_⟩, RepE.mk (fun y hy => hs y (by simp [hy])) h2 fun k hk => ?_⟩
    · have := h3 k (by simp; omega)
      rwa [List.getElem_append_left hk] at this
    · have := h3 (sz + k) (by simp; omega)
      rw [List.getElem_append_right (by omega)] at this
      simp only [hl, Nat.add_sub_cancel_left] at this
      rw [Nat.add_assoc]; exact this

theorem RepL.append {σ : St} : ∀ {xs ys : List V} {cs ds : List Value}, RepL σ xs cs → RepL σ ys ds → RepL σ (xs ++ ys) (cs ++ ds)
  | [], _, _, _, h, k => by
    have : _ = [] := h
    subst this; simpa using k
  | x :: xs, ys, _, ds, ⟨c, d, rfl, h1, h2⟩, k => ⟨c, d ++ ds, by simp, h1, RepL.append h2 k⟩

theorem RepL.drop {σ : St} : ∀ {xs : List V} {cs : List Value} (i : Nat), RepL σ xs cs → RepL σ (xs.drop i) (cs.drop (Sh.sizeL (V.shapeL (xs.take i))))
  | [], _, i, h => by have : _ = [] := h; subst this; simp [RepL]
  | x :: xs, _, 0, h => by simpa [V.shapeL, Sh.sizeL] using h
  | x :: xs, _, i + 1, ⟨c, d, rfl, h1, h2⟩ => by
    have := RepL.drop i h2
    simp only [List.drop_succ_cons, List.take_succ_cons, V.shapeL, Sh.sizeL]
    rw [← RepC.length x c h1, ← List.drop_drop, List.drop_left]
    exact this

theorem RepL.take {σ : St} : ∀ {xs : List V} {cs : List Value} (i : Nat), RepL σ xs cs → RepL σ (xs.take i) (cs.take (Sh.sizeL (V.shapeL (xs.take i))))
  | [], _, i, h => by have : _ = [] := h; subst this; simp [RepL]
  | x :: xs, _, 0, h => by simp [V.shapeL, Sh.sizeL, RepL]
  | x :: xs, _, i + 1, ⟨c, d, rfl, h1, h2⟩ => by
    have := RepL.take i h2
    simp only [List.take_succ_cons, V.shapeL, Sh.sizeL]
    rw [← RepC.length x c h1, List.take_append, List.take_of_length_le (l := c) (by omega), Nat.add_sub_cancel_left]
    exact ⟨c, _, rfl, h1, this⟩

theorem RepL.length_const {σ : St} {xs : List V} {cs : List Value} {sz : Nat} (h : RepL σ xs cs) (hs : ∀ x ∈ xs, x.shape.size = sz) : cs.length = xs.length * sz := by
  rw [RepL.length xs cs h]
  have := Sh.sizeL_const (k := (V.shapeL xs).length) (uniform_shape hs) (Nat.le_refl _)
  rwa [List.take_length, V.shapeL_length] at this

/-- The cells of a slice's elements. -/
theorem elems_flat {σ : St} (I : Inv σ) {v : V} {X : Value} {xs : List V} (r : RepV σ v X) (he : elems σ.H v = some xs) :
    ∃ ad cap, X = .slice ad xs.length cap ∧ xs.length ≤ cap ∧ (∀ x ∈ xs, x.shape.size = slSize v) ∧ (xs = [] ∨ ∃ b o cs, ad = some ⟨b, o, none⟩ ∧ RepL σ xs cs ∧ ∀ j u, cs[j]? = some u → σ.w.cell? ⟨b, o + j, none⟩ = some u) := by
  unfold elems at he
  split at he
  · rename_i sz ys tk
    cases he
    obtain ⟨ad, cap, g1, g2, g3, g4⟩ := repV_sl.1 r
    rcases g4 with g4 | ⟨b, o, g4, g5⟩
    · subst g4; exact ⟨ad, cap, g1, g2, by simp, .inl rfl⟩
    · obtain ⟨k1, cs, k2, k3⟩ := RepE.flat g5
      exact ⟨ad, cap, g1, g2, k1, .inr ⟨b, o, cs, g4, k2, has_get k3⟩⟩
  · rename_i t p off len sz
    split at he
    · rename_i u hu
      split at he
      · rename_i zs hz
        cases he
        obtain ⟨sh, o', l, cap, ad, g1, g2, g3, g4, g5, g6, g8, g7⟩ := repV_arr.1 r
        rw [shapeAt_cell hu] at g1
        cases g1
        have hat := V.at_shape hz
        rw [V.shape_agg, g2] at hat
        cases hat
        rw [V.shapeL_length] at g5
        have hs : ∀ x ∈ zs, x.shape.size = sz := fun x hx => g4 _ (by rw [V.shapeL_eq]; exact List.mem_map.2 ⟨x, hx, rfl⟩)
        have hlen : ((zs.drop off).take len).length = len := by simp; omega
        refine ⟨ad, cap, by rw [hlen]; exact g7, by rw [hlen]; exact g6, fun x hx => hs x (List.mem_of_mem_drop (List.mem_of_mem_take hx)), ?_⟩
        rcases Nat.eq_zero_or_pos len with h0 | hpos
        · exact .inl (List.eq_nil_of_length_eq_zero (by rw [hlen]; exact h0))
        · obtain ⟨cs, e, fr, k1, k2, k3, k4⟩ := I.blk t _ hu
          obtain ⟨o2, k5, k6, k7, k8⟩ := rep_at k3 hz
          rw [g3] at k5
          cases k5
          have k6' : RepL σ zs _ := k6
          have m1 := RepL.take len (RepL.drop off k6')
          rw [← V.shapeL_take zs off, Sh.sizeL_const (uniform_shape hs) (by rw [V.shapeL_length]; omega)] at m1
          rw [← V.shapeL_take (zs.drop off) len, Sh.sizeL_const (uniform_shape (sz := sz) fun x hx => hs x (List.mem_of_mem_drop hx)) (by rw [V.shapeL_length]; simp; omega)] at m1
          refine .inr ⟨_, _, _, g8 hpos, m1, fun j u hj => ?_⟩
          rw [cell_heap k1]
          rw [List.getElem?_take] at hj
          split at hj
          · rw [List.getElem?_drop, List.getElem?_take] at hj
            split at hj
            · rw [List.getElem?_drop] at hj
              rw [← Array.getElem?_toList, ← hj, Nat.add_assoc]
            · cases hj
          · cases hj
      · cases he
    · cases he
  · cases he

theorem byte_cells {σ : St} : ∀ {xs : List V} {cs : List Value}, RepL σ xs cs → (∀ x ∈ xs, V.isByte x = true) → ∃ ns : List Int, cs = ns.map (Value.int .u8) ∧ ns.length = xs.length ∧ ns.map (fun n => UInt8.ofNat n.toNat) = xs.map V.byte
  | [], _, h, _ => ⟨[], by have : _ = [] := h; subst this; rfl, rfl, rfl⟩
  | x :: xs, _, ⟨c, d, rfl, h1, h2⟩, hb => by
    obtain ⟨ns, k1, k2, k3⟩ := byte_cells h2 fun y hy => hb y (by simp [hy])
    have hx := hb x (by simp)
    cases x <;> try (cases hx; done)
    rename_i k n
    cases k <;> try (cases hx; done)
    simp only [RepC] at h1
    subst h1; subst k1
    exact ⟨n :: ns, by simp, by simp [k2], by simp [V.byte, k3]⟩

theorem run_getObj_map {P : Program} {w : World} {b : Nat} {es : Array MapEntry} {clk : Nat} (h : w.heap[b]? = some (.map es clk)) : (getObj b).run P w = .ok (.map es clk) w := by
  simp [getObj, Sem.run, h]

theorem RepVs.length {σ : St} : ∀ {xs : List V} {cs : List Value}, RepVs σ xs cs → xs.length = cs.length
  | [], _, h => by have : _ = [] := h; subst this; rfl
  | x :: xs, _, ⟨c, d, l, rfl, _, _, h⟩ => by simp [RepVs.length h]

section
variable {P : Program} {σ : St} {ρ : Nat → V} {a : Act} {o : Oper} {v : V} {c : Prop}

theorem bytesType_spec {t : TypeId} (h : bytesType P t = true) : ∃ e, P.underlying t = some (.slice e) ∧ P.underlying e = some (.int .u8) := by
  unfold bytesType at h
  split at h
  · rename_i e he
    obtain ⟨u, g1, g2⟩ := isDesc_spec h
    cases u <;> try (cases g2; done)
    rename_i k
    cases k <;> first | (cases g2; done) | exact ⟨e, he, g1⟩
  · cases h

theorem sound_b2s {x : Opd} (hk : chkPure P o.op (.b2s x) = true) (I : Inv σ) (hf : RepF σ ρ a) (ht : there ρ [x] = true)
    (he : evp (.b2s x) (val ρ) σ.H = some (c, v)) (hc : c) : Yields P (execOp a.eval o) σ v := by
  rw [there_cons] at ht
  cases ho : o.op <;> simp only [ho, chkPure] at hk <;> first | (cases hk; done) | skip
  rename_i s d y
  simp only [Bool.and_eq_true] at hk
  obtain ⟨⟨h1, h2⟩, h3⟩ := hk
  obtain ⟨e, h4, h5⟩ := bytesType_spec h2
  have r1 := opd_rep hf h1 ht.1
  simp only [evp] at he
  split at he
  · rename_i xs e1
    simp only [Option.some.injEq, Prod.mk.injEq] at he
    obtain ⟨rfl, rfl⟩ := he
    obtain ⟨c1, c2⟩ := hc
    obtain ⟨ad, cap, g1, g2, g3, g4⟩ := elems_flat I r1 e1
    refine .same I (cv := .string ⟨(xs.map V.byte).toArray⟩) ?_ (repV_str.2 rfl)
    rcases g4 with rfl | ⟨b, o', cs, rfl, k1, k2⟩
    · cases ad with
      | none =>
        have := run_convert_bytes_nil (P := P) σ.w s e h4 h5 0 cap d (strType_spec h3)
        simp only [execOp, ho, g1, Sem.run_bind, List.length_nil, this, Result.andThen_ok, Sem.run_pure]
        rfl
      | some ad =>
        have : (convert s d (.slice (some ad) 0 cap)).run P σ.w = .ok (.string ByteArray.empty) σ.w := by
          rw [run_convert_bytes_string σ.w s d e _ 0 cap h4 h5 (strType_spec h3), run_bytesToString σ.w ad 0 cap [] (by rfl)]
          rfl
        simp only [execOp, ho, g1, Sem.run_bind, List.length_nil, this, Result.andThen_ok, Sem.run_pure]
        rfl
    · obtain ⟨ns, m1, m2, m3⟩ := byte_cells k1 c2
      have := run_convert_bytes_arg (P := P) σ.w s e h4 h5 b o' xs.length cap ns m2 (fun i hi => by
        refine k2 i _ ?_
        subst m1
        simp [List.getD, List.getElem?_eq_getElem (show i < ns.length by omega)]) d (strType_spec h3)
      simp only [execOp, ho, g1, Sem.run_bind, this, Result.andThen_ok, Sem.run_pure, strOfNums, m3]
  · cases he

theorem sound_len {k : Nat} {x : Opd} (hk : chkPure P o.op (.len k x) = true) (I : Inv σ) (hf : RepF σ ρ a) (ht : there ρ [x] = true)
    (he : evp (.len k x) (val ρ) σ.H = some (c, v)) : Yields P (execOp a.eval o) σ v := by
  rw [there_cons] at ht
  cases ho : o.op <;> simp only [ho, chkPure] at hk <;> first | (cases hk; done) | skip
  rename_i cl
  obtain ⟨callee, args, argTypes⟩ := cl
  cases callee with
  | value => cases hk
  | invoke => cases hk
  | builtin b =>
    cases b <;> try (cases hk; done)
    obtain ⟨args⟩ := args
    obtain ⟨argTypes⟩ := argTypes
    match args, argTypes, hk with
    | [y], [t], hk =>
      simp only [Bool.and_eq_true] at hk
      obtain ⟨h1, h2⟩ := hk
      obtain ⟨u, g1, g2⟩ := isDesc_spec h2
      have r1 := opd_rep hf h1 ht.1
      have hrun : ∀ n : Nat, (∀ w, σ.w = w → (Builtin.len_ #[t] o.type #[a.eval y]).run P w = .ok (goInt n) w) → (execOp a.eval o).run P σ.w = .ok (.value (.int .i64 n)) σ.w := by
        intro n hn
        simp only [execOp, ho, resolve, invoke, builtin, Sem.run_bind, Sem.run_pure, Result.andThen_ok, List.map_toArray, List.map_cons, List.map_nil, hn _ rfl]
        rfl
      simp only [evp] at he
      split at he
      · rename_i s e1
        rw [e1, repV_str] at r1
        simp only [Option.some.injEq, Prod.mk.injEq] at he
        obtain ⟨_, rfl⟩ := he
        cases u <;> simp at g2
        refine .same I (hrun s.length fun w hw => ?_) (repV_int.2 rfl)
        have hs : (ByteArray.mk s.toArray).size = s.length := by simp [ByteArray.size]
        unfold Builtin.len_
        simp [run_underlying g1, r1, hs]
      · rename_i sz xs tk e1
        rw [e1] at r1
        simp only [Option.some.injEq, Prod.mk.injEq] at he
        obtain ⟨_, rfl⟩ := he
        cases u <;> simp at g2
        obtain ⟨ad, cap, k1, _⟩ := repV_sl.1 r1
        refine .same I (hrun xs.length fun w hw => ?_) (repV_int.2 rfl)
        unfold Builtin.len_
        simp [run_underlying g1, k1]
      · rename_i t' p off len sz e1
        rw [e1] at r1
        simp only [Option.some.injEq, Prod.mk.injEq] at he
        obtain ⟨_, rfl⟩ := he
        cases u <;> simp at g2
        obtain ⟨_, _, _, cap, ad, _, _, _, _, _, _, _, k1⟩ := repV_arr.1 r1
        refine .same I (hrun len fun w hw => ?_) (repV_int.2 rfl)
        unfold Builtin.len_
        simp [run_underlying g1, k1]
      · rename_i vv e1
        split at he
        · rename_i ks vs e2
          simp only [Option.some.injEq, Prod.mk.injEq] at he
          obtain ⟨_, rfl⟩ := he
          cases u <;> simp at g2
          refine .same I (hrun ks.length fun w hw => ?_) (repV_int.2 rfl)
          subst hw
          unfold Builtin.len_
          unfold mapOf at e2
          split at e2
          · rename_i t' e3
            rw [e3] at r1
            split at e2
            · rename_i ks' vs' hm
              cases e2
              obtain ⟨_, k1⟩ := repV_map.1 r1
              obtain ⟨es, clk, k2, k3, k4, k5⟩ := I.blk t' _ hm
              simp [run_underlying g1, k1, run_getObj_map k2, RepVs.length k3]
            · cases e2
          · rename_i ks' vs' e3
            rw [e3] at r1
            cases e2
            obtain ⟨b, es, clk, k1, k2, k3, k4, k5⟩ := repV_mapv.1 r1
            simp [run_underlying g1, k1, run_getObj_map k3, RepVs.length k4]
          · rename_i e3
            rw [e3, repV_nilmap] at r1
            cases e2
            simp [run_underlying g1, r1]
          · cases e2
        · cases he
      · cases he
end
end Go.Abs
end
