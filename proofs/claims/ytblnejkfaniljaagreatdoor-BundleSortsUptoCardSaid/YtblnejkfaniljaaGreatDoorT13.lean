/-
  Abstract code against the model's: blocks that are settled for good. Abstract code against the model's: what a call may forget, and the contract of a function by its body.
  Conditions: those that stand ahead of each theorem; no more.
-/
import Derived.Test.YtblnejkfaniljaaGreatDoorT12

section
namespace Go.Abs
open Go

mutual
/-- A value whose references to the told blocks are values; F tells what is behind a reference. -/
def fzW (d : Nat → Bool) (H : HP) (F : Option (V → V)) : V → V
  | .agg xs => .agg (fzL d H F xs)
  | .sl sz xs tk => .sl sz (fzL d H F xs) (match tk with | .row t => if d t then .view else .row t | tk => tk)
  | .arr t p off len sz => if d t then (match F, H[t]? with
      | some F, some (.cell v) => match v.at p with
        | some (.agg xs) => .sl sz (((xs.drop off).take len).map F) .view
        | _ => .junk
      | _, _ => .junk) else .arr t p off len sz
  | .ptr t p => if d t then (match F, H[t]? with
      | some F, some (.cell v) => match v.at p with
        | some y => .box (F y)
        | _ => .junk
      | _, _ => .junk) else .ptr t p
  | .map t => if d t then (match F, H[t]? with
      | some F, some (.map ks vs) => .mapv (ks.map F) (vs.map F)
      | _, _ => .junk) else .map t
  | .box x => .box (fzW d H F x)
  | .mapv ks vs => .mapv (fzL d H F ks) (fzL d H F vs)
  | .fn f a b => .fn f (fzL d H F a) (fzL d H F b)
  | .tup vs => .tup (fzL d H F vs)
  | .opt g v => .opt g (fzW d H F v)
  | v => v
def fzL (d : Nat → Bool) (H : HP) (F : Option (V → V)) : List V → List V
  | [] => []
  | x :: xs => fzW d H F x :: fzL d H F xs
end

def fz (d : Nat → Bool) (H : HP) : Nat → V → V
  | 0 => fzW d H none
  | n + 1 => fzW d H (some (fz d H n))

theorem fzL_eq (d : Nat → Bool) (H : HP) (F : Option (V → V)) (xs : List V) : fzL d H F xs = xs.map (fzW d H F) := by
  induction xs with
  | nil => simp [fzL]
  | cons x xs ih => simp [fzL, ih]

def fzBlk (d : Nat → Bool) (H : HP) (n t : Nat) : Blk → Blk
  | .cell v => if d t then .dead else .cell (fz d H n v)
  | .map ks vs => if d t then .dead else .map (ks.map (fz d H n)) (vs.map (fz d H n))
  | .row m sz => if d t then .dead else .row m sz
  | .dead => .dead

def fzH (d : Nat → Bool) (H : HP) (n : Nat) : HP := H.mapIdx fun t x => fzBlk d H n t x

def fzTM (d : Nat → Bool) (H : HP) (n : Nat) : TM → TM
  | [] => []
  | (i, v) :: r => (i, fz d H n v) :: fzTM d H n r

mutual
theorem fzW_shape (d : Nat → Bool) (H : HP) (F : Option (V → V)) : ∀ v : V, (fzW d H F v).shape = v.shape
  | .agg xs => by simp only [fzW, V.shape, fzL_shape d H F xs]
  | .arr t p off len sz => by
    simp only [fzW]
    split
    · split
      · split <;> rfl
      · rfl
    · rfl
  | .ptr t p => by
    simp only [fzW]
    split
    · split
      · split <;> rfl
      · rfl
    · rfl
  | .map t => by
    simp only [fzW]
    split
    · split <;> rfl
    · rfl
  | .sl .. | .box _ | .mapv .. | .fn .. | .tup _ | .opt .. | .junk | .int .. | .bool _ | .str _ | .nilp | .nilmap | .nilfn => by simp [fzW, V.shape]
theorem fzL_shape (d : Nat → Bool) (H : HP) (F : Option (V → V)) : ∀ xs : List V, V.shapeL (fzL d H F xs) = V.shapeL xs
  | [] => rfl
  | x :: xs => by simp only [fzL, V.shapeL, fzW_shape d H F x, fzL_shape d H F xs]
end

theorem fz_shape (d : Nat → Bool) (H : HP) (n : Nat) (v : V) : (fz d H n v).shape = v.shape := by cases n <;> exact fzW_shape _ _ _ _

/-- The state in which those blocks are settled. -/
def St.fz (σ : St) (d : Nat → Bool) (n : Nat) : St :=
  { σ with S := fun b o => σ.S b o ∨ ∃ t, d t = true ∧ σ.g.b t = b ∧ ((∃ v, σ.H[t]? = some (.cell v)) ∨ ∃ ks vs, σ.H[t]? = some (.map ks vs)), H := fzH d σ.H n }

theorem fzH_get (d : Nat → Bool) (H : HP) (n t : Nat) : (fzH d H n)[t]? = (H[t]?).map (fzBlk d H n t) := by simp [fzH]

section
variable {σ : St} {d : Nat → Bool}

theorem fz_shapeAt {n t : Nat} (h : d t = false) : shapeAt (fzH d σ.H n) t = shapeAt σ.H t := by
  unfold shapeAt
  rw [fzH_get]
  cases hx : σ.H[t]? with
  | none => rfl
  | some x => cases x <;> simp [fzBlk, h, fz_shape]

/-- F tells what the same cells hold, once those blocks are settled. -/
def FOk (σ : St) (d : Nat → Bool) (n : Nat) (F : V → V) : Prop := ∀ v cs, RepC σ v cs → RepC (σ.fz d n) (F v) cs
def FOkV (σ : St) (d : Nat → Bool) (n : Nat) (F : V → V) : Prop := (∀ v, (F v).shape = v.shape) ∧ FOk σ d n F

theorem wrap_shape {v v' : V} {l : List Value} {c : Value} (h : v'.shape = v.shape) (hw : Wrap v l c) : Wrap v' l c := by
  have : isAggV v' = isAggV v := by
    cases v <;> cases v' <;> simp [V.shape] at h <;> rfl
  cases hb : isAggV v with
  | true => rw [wrap_agg hb] at hw; rw [wrap_agg (this.trans hb)]; exact hw
  | false => rw [wrap_one hb] at hw; rw [wrap_one (this.trans hb)]; exact hw

theorem FOk.L {n : Nat} {F : V → V} (h : FOk σ d n F) : ∀ {xs : List V} {cs : List Value}, RepL σ xs cs → RepL (σ.fz d n) (xs.map F) cs
  | [], _, hr => hr
  | x :: _xs, _, ⟨c, e, h1, h2, h3⟩ => ⟨c, e, h1, h x c h2, FOk.L h h3⟩

theorem FOkV.Vs {n : Nat} {F : V → V} (h : FOkV σ d n F) : ∀ {xs : List V} {cs : List Value}, RepVs σ xs cs → RepVs (σ.fz d n) (xs.map F) cs
  | [], _, hr => hr
  | x :: _xs, _, ⟨c, e, l, h1, h2, h3, h4⟩ => ⟨c, e, l, h1, h.2 x l h2, wrap_shape (h.1 x) h3, FOkV.Vs h h4⟩

theorem fz_has {n b o : Nat} {cs : List Value} (h : σ.has b o cs) : (σ.fz d n).has b o cs := fun k hk => ⟨.inl (h k hk).1, (h k hk).2⟩

mutual
theorem fzW_rep (I : Inv σ) (n : Nat) (F : Option (V → V)) (hF : ∀ f, F = some f → FOkV σ d n f) : ∀ (v : V) (cs : List Value), RepC σ v cs → RepC (σ.fz d n) (fzW d σ.H F v) cs
  | .agg xs, cs, h => fzL_rep I n F hF xs cs h
  | .sl sz xs tk, cs, h => by
    obtain ⟨a, cap, h1, h2, h3, h4⟩ := h
    have hl : (fzL d σ.H F xs).length = xs.length := by rw [fzL_eq]; simp
    refine ⟨a, cap, by rw [hl]; exact h1, by rw [hl]; exact h2, ?_, ?_⟩
    · rw [hl]
      cases tk with
      | view => exact h3
      | full => exact h3
      | row t =>
        dsimp only
        cases hd : d t with
        | true => trivial
        | false =>
          obtain ⟨m, g1, g2, g3⟩ := h3
          refine ⟨m, ?_, g2, g3⟩
          show (fzH d σ.H n)[t]? = _
          rw [fzH_get, g1]
          simp [fzBlk, hd]
    · rcases h4 with rfl | ⟨b, o, e, h5⟩
      · exact .inl (by simp [fzL])
      · exact .inr ⟨b, o, e, fzE_rep I n F hF sz xs b o h5⟩
  | .arr t p off len sz, cs, h => by
    simp only [fzW]
    obtain ⟨sh, o, l, cap, ad, h1, h2, h3, h4, h5, h6, h7, h8⟩ := h
    cases hd : d t with
    | false =>
      rw [if_neg (by simp)]
      exact ⟨sh, o, l, cap, ad, (fz_shapeAt hd).trans h1, h2, h3, h4, h5, h6, h7, h8⟩
    | true =>
      rw [if_pos rfl]
      have hj : RepC (σ.fz d n) .junk cs := ⟨_, h8, rfl⟩
      cases F with
      | none => exact hj
      | some F =>
        cases hx : σ.H[t]? with
        | none => exact hj
        | some x =>
          cases x with
          | map => exact hj
          | row => exact hj
          | dead => exact hj
          | cell v =>
            dsimp only
            cases hv : v.at p with
            | none => exact hj
            | some y =>
              cases y with
              | agg xs =>
                dsimp only
                obtain ⟨c, e, fr, b1, b2, b3, b4⟩ := I.blk t _ hx
                rw [shapeAt_cell hx] at h1
                cases h1
                obtain ⟨o', k5, k6, k7, k8⟩ := rep_at b3 hv
                rw [k5] at h3
                cases h3
                rw [h2] at k8
                rw [V.shape_agg] at k8
                cases k8
                have hxs : ∀ x ∈ xs, x.shape.size = sz := fun x hx => h4 _ (by rw [V.shapeL_eq]; exact List.mem_map_of_mem hx)
                have k6 : RepL σ xs ((c.toList.drop o).take (V.agg xs).shape.size) := k6
                rw [V.shapeL_length] at h5
                have hlen : ((xs.drop off).take len).length = len := by simp; omega
                have hF' := hF F rfl
                refine ⟨ad, cap, by rw [List.length_map, hlen]; exact h8, by rw [List.length_map, hlen]; exact h6, trivial, ?_⟩
                by_cases h0 : len = 0
                · left
                  have : (xs.drop off).take len = [] := List.length_eq_zero_iff.1 (by rw [hlen]; exact h0)
                  rw [this]; rfl
                · right
                  refine ⟨_, _, h7 (by omega), ?_⟩
                  have r1 := RepL.take len (RepL.drop off k6)
                  have e1 : Sh.sizeL (V.shapeL (xs.take off)) = off * sz := by rw [← V.shapeL_take]; exact Sh.sizeL_const (uniform_shape hxs) (by rw [V.shapeL_length]; omega)
                  have hxd : ∀ x ∈ xs.drop off, x.shape.size = sz := fun x hx => hxs x (List.mem_of_mem_drop hx)
                  have e2 : Sh.sizeL (V.shapeL ((xs.drop off).take len)) = len * sz := by rw [← V.shapeL_take]; exact Sh.sizeL_const (uniform_shape hxd) (by rw [V.shapeL_length]; simp; omega)
                  have e3 : (V.agg xs).shape.size = xs.length * sz := by rw [V.shape_agg, Sh.size]; have := Sh.sizeL_const (k := xs.length) (uniform_shape hxs) (by rw [V.shapeL_length]; exact Nat.le_refl _); rw [V.shapeL_take, List.take_length] at this; exact this
                  rw [e1, e2, e3] at r1
                  refine RepE.mk (fun x hx => ?_) (hF'.2.L r1) fun k hk => ⟨.inr ⟨t, hd, rfl, .inl ⟨v, hx⟩⟩, ?_⟩
                  · obtain ⟨y, hy, rfl⟩ := List.mem_map.1 hx
                    rw [hF'.1]; exact hxd y (List.mem_of_mem_take hy)
                  · show σ.w.cell? _ = _
                    rw [cell_heap b1]
                    simp only [List.length_take, List.length_drop] at hk
                    rw [← Array.getElem?_toList]
                    simp only [List.getElem_take, List.getElem_drop]
                    rw [← List.getElem?_eq_getElem]
                    congr 1
                    omega
              | _ => exact hj
  | .ptr t p, cs, h => by
    simp only [fzW]
    obtain ⟨sh, o, h1, h2, h3⟩ := h
    cases hd : d t with
    | false =>
      rw [if_neg (by simp)]
      exact ⟨sh, o, (fz_shapeAt hd).trans h1, h2, h3⟩
    | true =>
      rw [if_pos rfl]
      have hj : RepC (σ.fz d n) .junk cs := ⟨_, h3, rfl⟩
      cases F with
      | none => exact hj
      | some F =>
        cases hx : σ.H[t]? with
        | none => exact hj
        | some x =>
          cases x with
          | map => exact hj
          | row => exact hj
          | dead => exact hj
          | cell v =>
            dsimp only
            cases hv : v.at p with
            | none => exact hj
            | some y =>
              dsimp only
              obtain ⟨c, e, fr, b1, b2, b3, b4⟩ := I.blk t _ hx
              rw [shapeAt_cell hx] at h1
              cases h1
              obtain ⟨o', k5, k6, k7, k8⟩ := rep_at b3 hv
              rw [k5] at h2
              cases h2
              refine ⟨_, _, _, h3, (hF F rfl).2 y _ k6, fun k hk => ⟨.inr ⟨t, hd, rfl, .inl ⟨v, hx⟩⟩, ?_⟩⟩
              show σ.w.cell? _ = _
              rw [cell_heap b1, ← Array.getElem?_toList]
              simp only [List.getElem_take, List.getElem_drop]
              rw [← List.getElem?_eq_getElem]
  | .map t, cs, h => by
    simp only [fzW]
    obtain ⟨⟨ks, vs, h1⟩, h2⟩ := h
    cases hd : d t with
    | false =>
      rw [if_neg (by simp)]
      exact ⟨⟨_, _, by show (fzH d σ.H n)[t]? = _; rw [fzH_get, h1]; simp [fzBlk, hd]; exact ⟨rfl, rfl⟩⟩, h2⟩
    | true =>
      rw [if_pos rfl]
      have hj : RepC (σ.fz d n) .junk cs := ⟨_, h2, rfl⟩
      cases F with
      | none => exact hj
      | some F =>
        rw [h1]
        obtain ⟨es, clk, b1, b2, b3, b4⟩ := I.blk t _ h1
        exact ⟨σ.g.b t, es, clk, h2, .inr ⟨t, hd, rfl, .inr ⟨ks, vs, h1⟩⟩, b1, (hF F rfl).Vs b2, (hF F rfl).Vs b3⟩
  | .box x, cs, h => by
    obtain ⟨b, o, c, h1, h2, h3⟩ := h
    exact ⟨b, o, c, h1, fzW_rep I n F hF x c h2, fz_has h3⟩
  | .mapv ks vs, cs, h => by
    obtain ⟨b, es, clk, h1, h2, h3, h4, h5⟩ := h
    exact ⟨b, es, clk, h1, .inl h2, h3, fzVs_rep I n F hF ks _ h4, fzVs_rep I n F hF vs _ h5⟩
  | .fn f xs ys, cs, h => by
    obtain ⟨cf, cc, h1, h2, h3⟩ := h
    exact ⟨cf, cc, h1, fzVs_rep I n F hF xs _ h2, fzVs_rep I n F hF ys _ h3⟩
  | .junk, _, h | .int .., _, h | .bool _, _, h | .str _, _, h | .nilp, _, h | .nilmap, _, h | .nilfn, _, h => h
  | .tup _, _, h => by simp [RepC] at h
  | .opt _ _, _, h => by simp [RepC] at h
theorem fzL_rep (I : Inv σ) (n : Nat) (F : Option (V → V)) (hF : ∀ f, F = some f → FOkV σ d n f) : ∀ (xs : List V) (cs : List Value), RepL σ xs cs → RepL (σ.fz d n) (fzL d σ.H F xs) cs
  | [], _, h => h
  | x :: xs, _, ⟨c, e, h1, h2, h3⟩ => ⟨c, e, h1, fzW_rep I n F hF x c h2, fzL_rep I n F hF xs e h3⟩
theorem fzE_rep (I : Inv σ) (n : Nat) (F : Option (V → V)) (hF : ∀ f, F = some f → FOkV σ d n f) (sz : Nat) : ∀ (xs : List V) (b o : Nat), RepE σ sz xs b o → RepE (σ.fz d n) sz (fzL d σ.H F xs) b o
  | [], _, _, _ => trivial
  | x :: xs, b, o, ⟨⟨c, h1, h2, h3⟩, h4⟩ => ⟨⟨c, h1, fzW_rep I n F hF x c h2, fz_has h3⟩, fzE_rep I n F hF sz xs b (o + sz) h4⟩
theorem fzVs_rep (I : Inv σ) (n : Nat) (F : Option (V → V)) (hF : ∀ f, F = some f → FOkV σ d n f) : ∀ (xs : List V) (cs : List Value), RepVs σ xs cs → RepVs (σ.fz d n) (fzL d σ.H F xs) cs
  | [], _, h => h
  | x :: xs, _, ⟨c, e, l, h1, h2, h3, h4⟩ => ⟨c, e, l, h1, fzW_rep I n F hF x l h2, wrap_shape (fzW_shape d σ.H F x) h3, fzVs_rep I n F hF xs e h4⟩
end

theorem fz_ok (I : Inv σ) (m : Nat) : ∀ n, FOkV σ d m (fz d σ.H n)
  | 0 => ⟨fun v => fz_shape d σ.H 0 v, fun v cs h => fzW_rep I m none (fun _ h => by cases h) v cs h⟩
  | n + 1 => ⟨fun v => fz_shape d σ.H (n + 1) v, fun v cs h => fzW_rep I m (some (fz d σ.H n)) (fun f hf => by cases hf; exact fz_ok I m n) v cs h⟩
end
end Go.Abs
end

section
namespace Go.Abs
open Go

section
variable {σ : St} {d : Nat → Bool}

theorem fz_res {n t : Nat} (h : Res (σ.fz d n) t) : Res σ t ∧ d t = false := by
  unfold Res at h ⊢
  rw [show (σ.fz d n).H[t]? = _ from fzH_get d σ.H n t] at h
  cases hx : σ.H[t]? with
  | none => rw [hx] at h; exact h.elim
  | some x =>
    rw [hx] at h
    cases hd : d t <;> cases x <;> simp only [Option.map_some, fzBlk, hd, if_true, if_false, Bool.false_eq_true] at h ⊢ <;> first | exact h.elim | exact ⟨trivial, trivial⟩ | exact ⟨h, trivial⟩

theorem St.fz_inv (I : Inv σ) (n : Nat) : Inv (σ.fz d n) := by
  have hnew : ∀ t, Res σ t → d t = false → ∀ o, (σ.fz d n).S (σ.g.b t) o ↔ σ.S (σ.g.b t) o := by
    intro t ht hd o
    refine ⟨fun h => ?_, .inl⟩
    rcases h with h | ⟨t', h1, h2, h3⟩
    · exact h
    · have : Res σ t' := by unfold Res; rcases h3 with ⟨v, h3⟩ | ⟨ks, vs, h3⟩ <;> rw [h3] <;> trivial
      have := I.inj t' t this ht h2
      subst this
      rw [h1] at hd; cases hd
  refine ⟨fun b o h => ?_, fun t x hx => ?_, fun i j hi hj e => I.inj i j (fz_res hi).1 (fz_res hj).1 e⟩
  · rcases h with h | ⟨t, _, rfl, h⟩
    · exact I.bound b o h
    · exact Res.lt I (by unfold Res; rcases h with ⟨v, h⟩ | ⟨ks, vs, h⟩ <;> rw [h] <;> trivial)
  · rw [show (σ.fz d n).H[t]? = _ from fzH_get d σ.H n t] at hx
    cases h0 : σ.H[t]? with
    | none => rw [h0] at hx; cases hx
    | some x0 =>
      rw [h0] at hx
      simp only [Option.map_some, Option.some.injEq] at hx
      subst hx
      have hb := I.blk t x0 h0
      cases hd : d t with
      | true => cases x0 <;> simp only [fzBlk, hd, if_true] <;> trivial
      | false =>
        cases x0 with
        | cell v =>
          simp only [fzBlk, hd, Bool.false_eq_true, if_false]
          obtain ⟨c, e, fr, b1, b2, b3, b4⟩ := hb
          exact ⟨c, e, fr, b1, b2, (fz_ok I n n).2 v _ b3, fun o ho => b4 o ((hnew t (by unfold Res; rw [h0]; trivial) hd o).1 ho)⟩
        | map ks vs =>
          simp only [fzBlk, hd, Bool.false_eq_true, if_false]
          obtain ⟨es, clk, b1, b2, b3, b4⟩ := hb
          exact ⟨es, clk, b1, (fz_ok I n n).Vs b2, (fz_ok I n n).Vs b3, fun o ho => b4 o ((hnew t (by unfold Res; rw [h0]; trivial) hd o).1 ho)⟩
        | row m sz =>
          simp only [fzBlk, hd, Bool.false_eq_true, if_false]
          intro hl
          obtain ⟨c, e, fr, b1, b2, b3, b4, b5⟩ := hb hl
          exact ⟨c, e, fr, b1, b2, b3, b4, fun o => (hnew t (by unfold Res; rw [h0]; exact hl) hd o).trans (b5 o)⟩
        | dead => trivial

theorem St.fz_tr (_I : Inv σ) (n n0 : Nat) (hd : ∀ t, t < n0 → d t = false) : Tr n0 σ (σ.fz d n) := by
  refine ⟨rfl, rfl, rfl, Nat.le_refl _, fun _ _ _ => rfl, fun _ _ h => .inl h, fun _ _ _ _ h => h, fun _ _ _ _ h => h, fun b o _ hno h => ?_, fun t ht => .inl ⟨t, (fz_res ht).1, rfl⟩, ?_, ?_, ?_⟩
  · rcases h with h | ⟨t, _, h2, h3⟩
    · exact h
    · exact (hno t (by unfold Res; rcases h3 with ⟨v, h3⟩ | ⟨ks, vs, h3⟩ <;> rw [h3] <;> trivial) h2).elim
  · intro t v ht hv
    exact ⟨Abs.fz d σ.H n v, by rw [show (σ.fz d n).H[t]? = _ from fzH_get d σ.H n t, hv]; simp only [Option.map_some, fzBlk, hd t ht, Bool.false_eq_true, if_false], fz_shape _ _ _ _, rfl⟩
  · intro t ks vs ht hv
    exact ⟨ks.map (Abs.fz d σ.H n), vs.map (Abs.fz d σ.H n), by rw [show (σ.fz d n).H[t]? = _ from fzH_get d σ.H n t, hv]; simp only [Option.map_some, fzBlk, hd t ht, Bool.false_eq_true, if_false], rfl⟩
  · intro t m sz ht hv
    exact ⟨m, by rw [show (σ.fz d n).H[t]? = _ from fzH_get d σ.H n t, hv]; simp only [Option.map_some, fzBlk, hd t ht, Bool.false_eq_true, if_false], .inr ⟨rfl, rfl, rfl, rfl⟩⟩

theorem fz_vs (I : Inv σ) (n m : Nat) : ∀ {xs : List V} {cs : List Value}, RepVs σ xs cs → RepVs (σ.fz d m) (xs.map (fz d σ.H n)) cs := fun h => (fz_ok I m n).Vs h

theorem fzW_repV (I : Inv σ) (n : Nat) (F : Option (V → V)) (hF : ∀ f, F = some f → FOkV σ d n f) : ∀ (v : V) (c : Value), RepV σ v c → RepV (σ.fz d n) (fzW d σ.H F v) c
  | .junk, _, _ => trivial
  | .tup vs, _, ⟨cs, h1, h2⟩ => ⟨cs, h1, fzVs_rep I n F hF vs _ h2⟩
  | .opt g v, c, h => ⟨fun hg => fzW_repV I n F hF v c (h.1 hg), h.2⟩
  | .agg xs, c, ⟨l, h1, h2⟩ => ⟨l, fzW_rep I n F hF _ l h1, h2⟩
  | .sl sz xs tk, c, ⟨l, h1, h2⟩ => ⟨l, fzW_rep I n F hF (.sl sz xs tk) l h1, h2⟩
  | .int .., _, h | .bool .., _, h | .str .., _, h | .nilp, _, h | .nilmap, _, h | .nilfn, _, h => h
  | .box x, c, ⟨l, h1, h2⟩ => ⟨l, fzW_rep I n F hF (.box x) l h1, h2⟩
  | .mapv a b, c, ⟨l, h1, h2⟩ => ⟨l, fzW_rep I n F hF (.mapv a b) l h1, h2⟩
  | .fn f a b, c, ⟨l, h1, h2⟩ => ⟨l, fzW_rep I n F hF (.fn f a b) l h1, h2⟩
  | .arr t p off len sz, c, ⟨l, h1, h2⟩ => by
    have h3 := fzW_rep I n F hF (.arr t p off len sz) l h1
    have h4 := wrap_shape (v' := fzW d σ.H F (.arr t p off len sz)) (fzW_shape _ _ _ _) h2
    exact h3.repV h4
  | .ptr t p, c, ⟨l, h1, h2⟩ => by
    have h3 := fzW_rep I n F hF (.ptr t p) l h1
    have h4 := wrap_shape (v' := fzW d σ.H F (.ptr t p)) (fzW_shape _ _ _ _) h2
    exact h3.repV h4
  | .map t, c, ⟨l, h1, h2⟩ => by
    have h3 := fzW_rep I n F hF (.map t) l h1
    have h4 := wrap_shape (v' := fzW d σ.H F (.map t)) (fzW_shape _ _ _ _) h2
    exact h3.repV h4

theorem fz_repV (I : Inv σ) (m : Nat) : ∀ (n : Nat) (v : V) (c : Value), RepV σ v c → RepV (σ.fz d m) (fz d σ.H n v) c
  | 0, v, c, h => fzW_repV I m none (fun _ h => by cases h) v c h
  | n + 1, v, c, h => fzW_repV I m (some (fz d σ.H n)) (fun f hf => by cases hf; exact fz_ok I m n) v c h

theorem lk_fzTM (H : HP) (n : Nat) : ∀ (tm : TM) (i : Nat), lk (fzTM d H n tm) i = fz d H n (lk tm i)
  | [], i => by cases n <;> simp [fzTM, lk, fz, fzW]
  | (j, v) :: r, i => by
    simp only [fzTM, lk]
    split
    · rfl
    · exact lk_fzTM H n r i

/-- Settle blocks of one's own. -/
theorem Weak.fz {n0 : Nat} {tm : TM} {H : HP} (d : Nat → Bool) (n : Nat) (hd : ∀ t, t < n0 → d t = false) : Weak n0 tm H (fzTM d H n tm) (fzH d H n) := by
  rintro σ a rfl I hf
  exact ⟨σ.fz d n, rfl, rfl, σ.fz_inv I n, fun i => by rw [lk_fzTM]; exact fz_repV I n n _ _ (hf i), σ.fz_tr I n n0 hd⟩
end

mutual
/-- Does a value refer to the first m blocks alone? -/
def V.under (m : Nat) : V → Bool
  | .agg xs => V.underL m xs
  | .sl _ xs tk => V.underL m xs && (match tk with | .row t => decide (t < m) | _ => true)
  | .arr t _ _ _ _ | .ptr t _ | .map t => decide (t < m)
  | .box x => x.under m
  | .mapv ks vs => V.underL m ks && V.underL m vs
  | .fn _ a b => V.underL m a && V.underL m b
  | .tup vs => V.underL m vs
  | .opt _ v => v.under m
  | _ => true
def V.underL (m : Nat) : List V → Bool
  | [] => true
  | x :: xs => x.under m && V.underL m xs
end

/-- Two states that are one below a place. -/
structure Same (m : Nat) (σ τ : St) : Prop where
  w : τ.w = σ.w
  S : τ.S = σ.S
  H : ∀ t, t < m → τ.H[t]? = σ.H[t]?
  b : ∀ t, t < m → τ.g.b t = σ.g.b t
  cap : ∀ t, t < m → τ.g.cap t = σ.g.cap t
  live : ∀ t, t < m → τ.g.live t = σ.g.live t

theorem Same.shapeAt {m t : Nat} {σ τ : St} (h : Same m σ τ) (ht : t < m) : shapeAt τ.H t = shapeAt σ.H t := by
  unfold Abs.shapeAt; rw [h.H t ht]
theorem Same.has {m : Nat} {σ τ : St} (h : Same m σ τ) {b o : Nat} {cs : List Value} (hh : σ.has b o cs) : τ.has b o cs := fun k hk => by
  rw [h.S, h.w]; exact hh k hk

mutual
theorem RepC.under {m : Nat} {σ τ : St} (h : Same m σ τ) : ∀ (v : V) (cs : List Value), v.under m = true → RepC σ v cs → RepC τ v cs
  | .agg xs, cs, hb, hr => RepL.under h xs cs (by simpa only [V.under] using hb) hr
  | .sl sz xs tk, cs, hb, ⟨a, cap, h1, h2, h3, h4⟩ => by
    simp only [V.under, Bool.and_eq_true] at hb
    refine ⟨a, cap, h1, h2, ?_, h4.imp id fun ⟨b, o, e, h5⟩ => ⟨b, o, e, RepE.under h sz xs b o hb.1 h5⟩⟩
    cases tk with
    | view => exact h3
    | full => exact h3
    | row t =>
      have ht : t < m := by simpa using hb.2
      obtain ⟨q, g1, g2, g3⟩ := h3
      refine ⟨q, by rw [h.H t ht]; exact g1, g2, ?_⟩
      rw [h.b t ht, h.cap t ht, h.live t ht]
      exact g3
  | .arr t p off len sz, cs, hb, ⟨sh, o, l, cap, ad, h1, h2, h3, h4, h5, h6, h7, h8⟩ => by
    have ht : t < m := by simpa [V.under] using hb
    exact ⟨sh, o, l, cap, ad, (h.shapeAt ht).trans h1, h2, h3, h4, h5, h6, by rw [h.b t ht]; exact h7, h8⟩
  | .ptr t p, cs, hb, ⟨sh, o, h1, h2, h3⟩ => by
    have ht : t < m := by simpa [V.under] using hb
    exact ⟨sh, o, (h.shapeAt ht).trans h1, h2, by rw [h.b t ht]; exact h3⟩
  | .map t, cs, hb, ⟨h1, h2⟩ => by
    have ht : t < m := by simpa [V.under] using hb
    exact ⟨by rw [h.H t ht]; exact h1, by rw [h.b t ht]; exact h2⟩
  | .box x, cs, hb, ⟨b, o, c, h1, h2, h3⟩ => ⟨b, o, c, h1, RepC.under h x c (by simpa only [V.under] using hb) h2, h.has h3⟩
  | .mapv ks vs, cs, hb, ⟨b, es, clk, h1, h2, h3, h4, h5⟩ => by
    simp only [V.under, Bool.and_eq_true] at hb
    exact ⟨b, es, clk, h1, by rw [h.S]; exact h2, by rw [h.w]; exact h3, RepVs.under h ks _ hb.1 h4, RepVs.under h vs _ hb.2 h5⟩
  | .fn f a b, cs, hb, ⟨cf, cc, h1, h2, h3⟩ => by
    simp only [V.under, Bool.and_eq_true] at hb
    exact ⟨cf, cc, h1, RepVs.under h a _ hb.1 h2, RepVs.under h b _ hb.2 h3⟩
  | .junk, _, _, h | .int .., _, _, h | .bool _, _, _, h | .str _, _, _, h | .nilp, _, _, h | .nilmap, _, _, h | .nilfn, _, _, h => h
  | .tup _, _, _, h => by simp [RepC] at h
  | .opt _ _, _, _, h => by simp [RepC] at h
theorem RepL.under {m : Nat} {σ τ : St} (h : Same m σ τ) : ∀ (xs : List V) (cs : List Value), V.underL m xs = true → RepL σ xs cs → RepL τ xs cs
  | [], _, _, hr => hr
  | x :: xs, _, hb, ⟨c, e, h1, h2, h3⟩ => by
    simp only [V.underL, Bool.and_eq_true] at hb
    exact ⟨c, e, h1, RepC.under h x c hb.1 h2, RepL.under h xs e hb.2 h3⟩
theorem RepE.under {m : Nat} {σ τ : St} (h : Same m σ τ) (sz : Nat) : ∀ (xs : List V) (b o : Nat), V.underL m xs = true → RepE σ sz xs b o → RepE τ sz xs b o
  | [], _, _, _, _ => trivial
  | x :: xs, b, o, hb, ⟨⟨c, h1, h2, h3⟩, h4⟩ => by
    simp only [V.underL, Bool.and_eq_true] at hb
    exact ⟨⟨c, h1, RepC.under h x c hb.1 h2, h.has h3⟩, RepE.under h sz xs b (o + sz) hb.2 h4⟩
theorem RepVs.under {m : Nat} {σ τ : St} (h : Same m σ τ) : ∀ (xs : List V) (cs : List Value), V.underL m xs = true → RepVs σ xs cs → RepVs τ xs cs
  | [], _, _, hr => hr
  | x :: xs, _, hb, ⟨c, e, l, h1, h2, h3, h4⟩ => by
    simp only [V.underL, Bool.and_eq_true] at hb
    exact ⟨c, e, l, h1, RepC.under h x l hb.1 h2, h3, RepVs.under h xs e hb.2 h4⟩
end

theorem RepV.under {m : Nat} {σ τ : St} (h : Same m σ τ) : ∀ (v : V) (c : Value), v.under m = true → RepV σ v c → RepV τ v c
  | .junk, _, _, _ => trivial
  | .tup vs, _, hb, ⟨cs, h1, h2⟩ => ⟨cs, h1, RepVs.under h vs _ (by simpa only [V.under] using hb) h2⟩
  | .opt g v, c, hb, hr => ⟨fun hg => RepV.under h v c (by simpa only [V.under] using hb) (hr.1 hg), hr.2⟩
  | .int .., _, _, hr | .bool .., _, _, hr | .str .., _, _, hr | .nilp, _, _, hr | .nilmap, _, _, hr | .nilfn, _, _, hr => hr
  | .agg .., _, hb, ⟨l, h1, h2⟩ | .sl .., _, hb, ⟨l, h1, h2⟩ | .arr .., _, hb, ⟨l, h1, h2⟩ | .ptr .., _, hb, ⟨l, h1, h2⟩ | .box _, _, hb, ⟨l, h1, h2⟩ | .map _, _, hb, ⟨l, h1, h2⟩ | .mapv .., _, hb, ⟨l, h1, h2⟩ | .fn .., _, hb, ⟨l, h1, h2⟩ => ⟨l, RepC.under h _ l hb h1, h2⟩

theorem RepAll.under {m : Nat} {σ τ : St} (h : Same m σ τ) : ∀ (xs : List V) (cs : List Value), V.underL m xs = true → RepAll σ xs cs → RepAll τ xs cs
  | [], _, _, hr => hr
  | x :: xs, _, hb, ⟨c, d, h1, h2, h3⟩ => by
    simp only [V.underL, Bool.and_eq_true] at hb
    exact ⟨c, d, h1, RepV.under h x c hb.1 h2, RepAll.under h xs d hb.2 h3⟩

/-- A call that is told with no abstract heap, is told with any. -/
theorem TCp.of_nil {P : Program} {f : FuncId} {args : List V} {r : V} (h : TC P f args [] fun r' _ => r' = r) (ha : V.underL 0 args = true) (hr : r.under 0 = true) : TCp P f args r := by
  intro H σ cargs hH I hargs
  have I0 : Inv { σ with H := [] } := ⟨I.bound, fun t x hx => (by cases hx), fun i j hi => (by simp [Res] at hi)⟩
  have hs0 : Same 0 σ { σ with H := [] } := ⟨rfl, rfl, fun _ h => by omega, fun _ h => by omega, fun _ h => by omega, fun _ h => by omega⟩
  refine (h { σ with H := [] } cargs rfl I0 (RepAll.under hs0 _ _ ha hargs)).mono ?_
  rintro c w' ⟨r', σ', rfl, I', hr', htr, rfl⟩
  have hno : ∀ (b : Nat) t, Res { σ with H := [] } t → σ.g.b t ≠ b := fun b t ht => by simp [Res] at ht
  have htr' : Tr σ.H.length σ { w := σ'.w, S := σ'.S, g := σ.g, H := σ.H } :=
    ⟨htr.os, htr.tape, htr.output, htr.size, fun b hb _ => htr.keep b hb (hno b), htr.S, htr.cell, htr.map, fun b o hb _ hs => htr.nonew b o hb (hno b) hs, fun t ht => .inl ⟨t, ht, rfl⟩,
      fun t v _ hv => ⟨v, hv, rfl, rfl⟩, fun t ks vs _ hv => ⟨ks, vs, hv, rfl⟩, fun t m sz _ hv => ⟨m, hv, .inr ⟨rfl, rfl, rfl, rfl⟩⟩⟩
  have hs1 : Same 0 σ' { w := σ'.w, S := σ'.S, g := σ.g, H := σ.H } := ⟨rfl, rfl, fun _ h => by omega, fun _ h => by omega, fun _ h => by omega, fun _ h => by omega⟩
  refine ⟨r', { w := σ'.w, S := σ'.S, g := σ.g, H := σ.H }, rfl, ⟨I'.bound, fun t x hx => ?_, I.inj⟩, RepV.under hs1 _ _ hr hr', hH ▸ htr', rfl, hH⟩
  refine BlkOk.keep htr'.le ⟨rfl, rfl, rfl⟩ (fun ob ho => ?_) (fun y hy o => ?_) (I.blk t x hx)
  · show σ'.w.heap[_]? = _
    rw [htr.keep _ (Array.getElem?_eq_some_iff.1 ho).1 (hno _)]; exact ho
  · exact ⟨fun hs => htr.nonew _ o (Array.getElem?_eq_some_iff.1 hy).1 (hno _) hs, fun hs => htr.S _ _ hs⟩
end Go.Abs
end
