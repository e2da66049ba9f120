/-
  Abstract code against the model's: the contract of a function, by its body.
  Conditions: those that stand ahead of each theorem; no more.
-/
import Derived.Test.YtblnejkfaniljaaGreatDoorT13

section
namespace Go.Abs
open Go

/-- Where a result stands. -/
inductive RD where
  | tmp (t : Nat)
  | cell (t sz : Nat) (ag : Bool)

def chkRes (P : Program) : List ResultVar → List RD → Bool
  | [], [] => true
  | .tmp t :: rs, .tmp u :: ds => Nat.beq t u && chkRes P rs ds
  | .cell t ty :: rs, .cell u sz ag :: ds => Nat.beq t u && szIs P ty sz && aggIs P ty ag && chkRes P rs ds
  | _, _ => false

def retL (tm : TM) (H : HP) : List RD → Option (Prop × List V)
  | [] => some (True, [])
  | .tmp t :: ds => match retL tm H ds with
    | some (c, vs) => some ((lk tm t).plain = true ∧ c, lk tm t :: vs)
    | none => none
  | .cell t sz ag :: ds => match evp (.load sz ag (.t t)) (val (lk tm)) H, retL tm H ds with
    | some (c, v), some (c', vs) => some (c ∧ v.plain = true ∧ there (lk tm) [.t t] = true ∧ c', v :: vs)
    | _, _ => none

/-- What a function returns. -/
def retOf (tm : TM) (H : HP) (ds : List RD) : Option (Prop × V) := match retL tm H ds with
  | some (c, [v]) => some (c, v)
  | some (c, vs) => some (c, .tup vs)
  | none => none

def enter : List V → Nat → TM
  | [], _ => []
  | v :: vs, i => (i, v) :: enter vs (i + 1)

def underH (m : Nat) : HP → Bool
  | [] => true
  | .cell v :: H => v.under m && underH m H
  | .map ks vs :: H => V.underL m ks && V.underL m vs && underH m H
  | _ :: H => underH m H

section
variable {P : Program} {σ : St}

def resFn (tmps : Array Value) : ResultVar → Sem Value
  | .tmp t => pure (tmps.getD t undef)
  | .cell b t => do loadVar t (← asAddr (tmps.getD b undef))

theorem load_run {a : Act} {ρ : Nat → V} {t : TypeId} {sz : Nat} {ag : Bool} {x : Opd} {x' : Operand} {c : Prop} {v : V} (h1 : chkOpd x' x = true) (h2 : szIs P t sz = true) (h3 : aggIs P t ag = true) (I : Inv σ) (hf : RepF σ ρ a) (ht : there ρ [x] = true)
    (he : evp (.load sz ag x) (val ρ) σ.H = some (c, v)) (hc : c) : ∃ ad cv, a.eval x' = .pointer (some ad) ∧ (loadVar t ad).run P σ.w = .ok cv σ.w ∧ RepV σ v cv := by
  rw [there_cons] at ht
  have r1 := opd_rep hf h1 ht.1
  simp only [evp] at he
  split at he
  · rename_i t' p e1
    rw [e1] at r1
    split at he
    · rename_i u hu
      split at he
      · rename_i y hy
        simp only [Option.some.injEq, Prod.mk.injEq] at he
        obtain ⟨rfl, rfl⟩ := he
        obtain ⟨sh, off, g1, g2, g3⟩ := repV_ptr.1 r1
        obtain ⟨cs, e, fr, k1, k2, k3, k4⟩ := I.blk t' _ hu
        obtain ⟨o', k5, k6, k7, k8⟩ := rep_at k3 hy
        rw [shapeAt_cell hu] at g1
        cases g1
        rw [k5] at g2
        cases g2
        obtain ⟨cv, h4, h5⟩ := run_loadVar (P := P) (b := σ.g.b t') (off := off) h2 h3 k6 hc.1 hc.2 (fun j v hj => by
          rw [cell_heap k1]
          rw [List.getElem?_take] at hj
          split at hj
          · rw [List.getElem?_drop] at hj; simpa using hj
          · cases hj)
        exact ⟨_, cv, g3, h4, h5⟩
      · cases he
    · cases he
  · rename_i y e1
    rw [e1] at r1
    simp only [Option.some.injEq, Prod.mk.injEq] at he
    obtain ⟨rfl, rfl⟩ := he
    obtain ⟨b, off, cs, g1, g2, g3⟩ := repV_box.1 r1
    obtain ⟨cv, h4, h5⟩ := run_loadVar (P := P) (b := b) (off := off) h2 h3 g2 hc.1 hc.2 (has_get g3)
    exact ⟨_, cv, g1, h4, h5⟩
  · cases he

theorem retL_sound {a : Act} {tm : TM} (I : Inv σ) (hf : RepF σ (lk tm) a) : ∀ {rs : List ResultVar} {ds : List RD} {c : Prop} {vs : List V}, chkRes P rs ds = true → retL tm σ.H ds = some (c, vs) → c →
    ∃ cs : List Value, (rs.mapM (resFn a.tmps)).run P σ.w = .ok cs σ.w ∧ RepVs σ vs cs
  | [], [], c, vs, _, h, _ => by simp only [retL, Option.some.injEq, Prod.mk.injEq] at h; obtain ⟨_, rfl⟩ := h; exact ⟨[], rfl, rfl⟩
  | .tmp t :: rs, .tmp u :: ds, c, vs, hk, h, hc => by
    simp only [chkRes, Bool.and_eq_true] at hk
    have := Nat.eq_of_beq_eq_true hk.1
    subst this
    simp only [retL] at h
    split at h
    · rename_i c' vs' h'
      cases h
      obtain ⟨cs, h1, h2⟩ := retL_sound I hf hk.2 h' hc.2
      obtain ⟨l, g1, g2⟩ := plain_wrap hc.1 (hf t)
      refine ⟨a.tmps.getD t undef :: cs, ?_, ⟨_, _, l, rfl, g1, g2, h2⟩⟩
      rw [List.mapM_cons]
      simp only [resFn, Sem.run_bind, Sem.run_pure, Result.andThen_ok, h1]
    · cases h
  | .cell t ty :: rs, .cell u sz ag :: ds, c, vs, hk, h, hc => by
    simp only [chkRes, Bool.and_eq_true] at hk
    obtain ⟨⟨⟨k1, k2⟩, k3⟩, k4⟩ := hk
    have := Nat.eq_of_beq_eq_true k1
    subst this
    simp only [retL] at h
    split at h
    · rename_i c1 v c2 vs' h1 h2
      cases h
      obtain ⟨cs, e1, e2⟩ := retL_sound I hf k4 h2 hc.2.2.2
      obtain ⟨ad, cv, g1, g2, g3⟩ := load_run (P := P) (x' := .tmp t) (x := .t t) (by simp [chkOpd]) k2 k3 I hf hc.2.2.1 h1 hc.1
      obtain ⟨l, q1, q2⟩ := plain_wrap hc.2.1 g3
      refine ⟨cv :: cs, ?_, ⟨_, _, l, rfl, q1, q2, e2⟩⟩
      have g1 : a.tmps.getD t undef = .pointer (some ad) := g1
      have ha : asAddr (a.tmps.getD t undef) = pure ad := by rw [g1]; rfl
      rw [List.mapM_cons]
      simp only [resFn, Sem.run_bind, Sem.run_pure, Result.andThen_ok, ha, g2, e1]
    · cases h
  | [], _ :: _, _, _, hk, _, _ => by simp [chkRes] at hk
  | .tmp _ :: _, [], _, _, hk, _, _ => by simp [chkRes] at hk
  | .cell _ _ :: _, [], _, _, hk, _, _ => by simp [chkRes] at hk
  | .tmp _ :: _, .cell .. :: _, _, _, hk, _, _ => by simp [chkRes] at hk
  | .cell _ _ :: _, .tmp .. :: _, _, _, hk, _, _ => by simp [chkRes] at hk
theorem retOf_sound {a : Act} {tm : TM} {fn : Func} {ds : List RD} {c : Prop} {v : V} (I : Inv σ) (hf : RepF σ (lk tm) a) (hk : chkRes P fn.results.toList ds = true) (h : retOf tm σ.H ds = some (c, v)) (hc : c) :
    ∃ cv, (results fn a.tmps).run P σ.w = .ok cv σ.w ∧ RepV σ v cv := by
  unfold retOf at h
  have hrun : ∀ cs : List Value, (fn.results.toList.mapM (resFn a.tmps)).run P σ.w = .ok cs σ.w →
      (results fn a.tmps).run P σ.w = .ok (if h : cs.toArray.size = 1 then cs.toArray[0] else .tuple cs.toArray) σ.w := by
    intro cs hcs
    have hres : results fn a.tmps = (do
        let vs ← fn.results.mapM (resFn a.tmps)
        pure (if h : vs.size = 1 then vs[0] else .tuple vs)) := by
      unfold results
      congr 2
    rw [hres]
    have : fn.results = fn.results.toList.toArray := by simp
    rw [this, List.mapM_toArray]
    simp only [map_eq_pure_bind, bind_assoc, pure_bind, Sem.run_bind, hcs, Result.andThen_ok, Sem.run_pure]
  cases h' : retL tm σ.H ds with
  | none => rw [h'] at h; cases h
  | some q =>
    obtain ⟨c', vs⟩ := q
    rw [h'] at h
    by_cases hl : vs.length = 1
    · obtain ⟨v', rfl⟩ := List.length_eq_one_iff.1 hl
      cases h
      obtain ⟨cs, h1, h2⟩ := retL_sound I hf hk h' hc
      obtain ⟨x, y, l, rfl, g1, g2, g3⟩ := h2
      have : y = [] := g3
      subst this
      exact ⟨x, by simpa using hrun _ h1, g1.repV g2⟩
    · have hh : c = c' ∧ v = .tup vs := by
        match vs, hl with
        | [], _ => cases h; exact ⟨rfl, rfl⟩
        | [_], hl => exact (hl rfl).elim
        | _ :: _ :: _, _ => cases h; exact ⟨rfl, rfl⟩
      obtain ⟨rfl, rfl⟩ := hh
      obtain ⟨cs, h1, h2⟩ := retL_sound I hf hk h' hc
      have hn1 : cs.toArray.size ≠ 1 := fun h1' => hl (by rw [RepVs.length h2]; simpa using h1')
      have := hrun _ h1
      rw [dif_neg hn1] at this
      exact ⟨_, this, repV_tup.2 ⟨_, rfl, by simpa using h2⟩⟩

theorem enter_rep : ∀ (args : List V) (cargs : List Value) (i : Nat) (f : Nat → Value), RepAll σ args cargs → (∀ j v, cargs[j]? = some v → f (i + j) = v) → ∀ t, RepV σ (lk (enter args i) t) (f t)
  | [], _, i, f, _, _, t => trivial
  | v :: vs, _, i, f, ⟨c, d, rfl, h1, h2⟩, hf, t => by
    simp only [enter, lk]
    split
    · rename_i e
      subst e
      rw [show f i = c by simpa using hf 0 c rfl]
      exact h1
    · exact enter_rep vs d (i + 1) f h2 (fun j u hj => by rw [show i + 1 + j = i + (j + 1) by omega]; exact hf (j + 1) u (by simpa using hj)) t

theorem repAll_length : ∀ {xs : List V} {cs : List Value}, RepAll σ xs cs → xs.length = cs.length
  | [], cs, h => by have : cs = [] := h; subst this; rfl
  | x :: xs, _, ⟨c, d, h1, _, h3⟩ => by rw [h1]; simp [repAll_length h3]

/-- What the body must come to. -/
def RetG (rd : List RD) (n0 : Nat) (Q : V → HP → Prop) (e : Ex) (tm : TM) (H : HP) : Prop :=
  (e = .normal ∨ e = .ret) ∧ match retOf tm H rd with
    | some (c, v) => c ∧ (fz (fun t => decide (n0 ≤ t)) H 8 v).under n0 = true ∧ underH n0 ((fzH (fun t => decide (n0 ≤ t)) H 8).take n0) = true ∧ n0 ≤ H.length ∧
        Q (fz (fun t => decide (n0 ≤ t)) H 8 v) ((fzH (fun t => decide (n0 ≤ t)) H 8).take n0)
    | none => False

theorem underH_get {m : Nat} : ∀ {H : HP} {t : Nat}, underH m H = true → (∀ v, H[t]? = some (.cell v) → v.under m = true) ∧ ∀ ks vs, H[t]? = some (.map ks vs) → V.underL m ks = true ∧ V.underL m vs = true
  | [], t, _ => ⟨fun _ h => by simp at h, fun _ _ h => by simp at h⟩
  | x :: H, 0, h => by
    refine ⟨fun v hv => ?_, fun ks vs hv => ?_⟩
    · simp at hv; subst hv; simp only [underH, Bool.and_eq_true] at h; exact h.1
    · simp at hv; subst hv; simp only [underH, Bool.and_eq_true] at h; exact h.1
  | x :: H, t + 1, h => by
    have h' : underH m H = true := by cases x <;> simp_all [underH]
    simpa using underH_get (t := t) h'

theorem Same.take (σ : St) (m : Nat) : Same m σ { σ with H := σ.H.take m } :=
  ⟨rfl, rfl, fun t ht => by simp [ht], fun _ _ => rfl, fun _ _ => rfl, fun _ _ => rfl⟩

theorem take_inv {m : Nat} (I : Inv σ) (hu : underH m (σ.H.take m) = true) : Inv { σ with H := σ.H.take m } := by
  have hs := Same.take σ m
  have hold : ∀ t x, (σ.H.take m)[t]? = some x → t < m ∧ σ.H[t]? = some x := by
    intro t x hx
    rw [List.getElem?_take] at hx
    split at hx
    · exact ⟨by assumption, hx⟩
    · cases hx
  have hres : ∀ t, Res { σ with H := σ.H.take m } t → Res σ t := by
    intro t ht
    unfold Res at ht ⊢
    dsimp only at ht
    cases hx : (σ.H.take m)[t]? with
    | none => rw [hx] at ht; exact ht.elim
    | some x => rw [hx] at ht; rw [(hold t x hx).2]; exact ht
  refine ⟨I.bound, fun t x hx => ?_, fun i j hi hj e => I.inj i j (hres i hi) (hres j hj) e⟩
  obtain ⟨h1, h2⟩ := hold t x hx
  have hb := I.blk t x h2
  cases x with
  | cell v =>
    obtain ⟨c, e, fr, b1, b2, b3, b4⟩ := hb
    exact ⟨c, e, fr, b1, b2, RepC.under hs v _ ((underH_get hu).1 v hx) b3, b4⟩
  | map ks vs =>
    obtain ⟨es, clk, b1, b2, b3, b4⟩ := hb
    obtain ⟨u1, u2⟩ := (underH_get hu).2 ks vs hx
    exact ⟨es, clk, b1, RepVs.under hs ks _ u1 b2, RepVs.under hs vs _ u2 b3, b4⟩
  | row n sz => exact hb
  | dead => trivial

theorem take_tr (σ : St) (m : Nat) : Tr m σ { σ with H := σ.H.take m } := by
  have hg : ∀ t, t < m → (σ.H.take m)[t]? = σ.H[t]? := fun t ht => by simp [ht]
  refine ⟨rfl, rfl, rfl, Nat.le_refl _, fun _ _ _ => rfl, fun _ _ h => h, fun _ _ _ _ h => h, fun _ _ _ _ h => h, fun _ _ _ _ h => h, fun t ht => .inl ⟨t, ?_, rfl⟩, fun t v ht hv => ⟨v, (hg t ht).trans hv, rfl, rfl⟩,
    fun t ks vs ht hv => ⟨ks, vs, (hg t ht).trans hv, rfl⟩, fun t q sz ht hv => ⟨q, (hg t ht).trans hv, .inr ⟨rfl, rfl, rfl, rfl⟩⟩⟩
  unfold Res at ht ⊢
  dsimp only at ht
  cases hx : (σ.H.take m)[t]? with
  | none => rw [hx] at ht; exact ht.elim
  | some x =>
    rw [hx] at ht
    rw [List.getElem?_take] at hx
    split at hx
    · rw [hx]; exact ht
    · cases hx

/-- Is this the function of this number, and does that abstract code stand for its body? -/
def chkFn (P : Program) (f : FuncId) (cc : CC) (rd : List RD) (k : Nat) : Bool := match P.funcs[f]? with
  | some fn => (match fn.body with | some c => cc.chk P fn.ntmps c | none => false) && chkRes P fn.results.toList rd && decide (k ≤ fn.ntmps) && fn.name != "runtime.NumGoroutine"
  | none => false

/-- THE CONTRACT OF A FUNCTION, BY ITS BODY. -/
theorem TC.of_body (hP : P.follows .mixedOrders = true) {f : FuncId} {cc : CC} {rd : List RD} {args : List V} {H : HP} {Q : V → HP → Prop} (hk : chkFn P f cc rd args.length = true)
    (h : AW P H.length cc (RetG rd H.length Q) (enter args 0) H) : TC P f args H Q := by
  unfold chkFn at hk
  split at hk
  · rename_i fn hf
    simp only [Bool.and_eq_true, decide_eq_true_eq, bne_iff_ne, ne_eq] at hk
    obtain ⟨⟨⟨k1, k2⟩, k3⟩, k4⟩ := hk
    split at k1
    · rename_i c hb
      rintro σ cargs rfl I hargs
      have hcl := repAll_length hargs
      have hent : (callFunc f cargs.toArray).run P σ.w = .ok (.enter f cargs.toArray) σ.w := by
        simp [callFunc, hf, hb, k4]
      rw [hent]
      refine calls_of_wp hf hb ?_
      refine AW_sound (σ0 := σ) hP cc c k1 σ (enter args 0) _ (RetG rd σ.H.length Q) _ I ?_ ⟨by simp; omega, rfl⟩ (Tr.refl _ _) h ?_
      · refine enter_rep args cargs 0 (fun t => (cargs.toArray ++ Array.replicate (fn.ntmps - cargs.toArray.size) undef).getD t undef) hargs fun j v hj => ?_
        obtain ⟨h1, h2⟩ := List.getElem?_eq_some_iff.1 hj
        simp [Array.getD_eq_getD_getElem?, Array.getElem?_append, h1, h2]
      · rintro e tm a σ' I' hf' ha htr ⟨he, hr⟩
        cases hret : retOf tm σ'.H rd with
        | none => rw [hret] at hr; exact hr.elim
        | some q =>
          obtain ⟨cnd, v⟩ := q
          rw [hret] at hr
          obtain ⟨hc, hu, huH, hlen, hQ⟩ := hr
          obtain ⟨cv, h1, h2⟩ := retOf_sound I' hf' k2 hret hc
          have hd : ∀ t, t < σ.H.length → decide (σ.H.length ≤ t) = false := fun t ht => by simp; omega
          have If := σ'.fz_inv (d := fun t => decide (σ.H.length ≤ t)) I' 8
          have ht1 := σ'.fz_tr (d := fun t => decide (σ.H.length ≤ t)) I' 8 σ.H.length hd
          have h3 := fz_repV (d := fun t => decide (σ.H.length ≤ t)) I' 8 8 v cv h2
          have ht2 := take_tr (σ'.fz (fun t => decide (σ.H.length ≤ t)) 8) σ.H.length
          have key : a.defers = [] ∧ ∃ v, (results fn a.tmps).run P σ'.w = .ok v σ'.w ∧ ∃ v', Ending.returned v = .returned v' ∧ ∃ r σ'', σ''.w = σ'.w ∧ Inv σ'' ∧ RepV σ'' r v' ∧ Tr σ.H.length σ σ'' ∧ Q r σ''.H :=
            ⟨ha.2, cv, h1, cv, rfl, _, { (σ'.fz (fun t => decide (σ.H.length ≤ t)) 8) with H := (fzH (fun t => decide (σ.H.length ≤ t)) σ'.H 8).take σ.H.length }, rfl, take_inv If huH, RepV.under (Same.take _ _) _ _ hu h3, (htr.trans ht1).trans ht2, hQ⟩
          rcases he with rfl | rfl <;> exact key
    · cases k1
  · cases hk

/-- What the body must come to where all its blocks stay. -/
def RetK (rd : List RD) (Q : V → HP → Prop) (e : Ex) (tm : TM) (H : HP) : Prop :=
  (e = .normal ∨ e = .ret) ∧ match retOf tm H rd with
    | some (c, v) => c ∧ Q v H
    | none => False

/-- The contract of a function, by its body, with all its blocks. -/
theorem TC.of_body_keep (hP : P.follows .mixedOrders = true) {f : FuncId} {cc : CC} {rd : List RD} {args : List V} {H : HP} {Q : V → HP → Prop} (hk : chkFn P f cc rd args.length = true)
    (h : AW P H.length cc (RetK rd Q) (enter args 0) H) : TC P f args H Q := by
  unfold chkFn at hk
  split at hk
  · rename_i fn hf
    simp only [Bool.and_eq_true, decide_eq_true_eq, bne_iff_ne, ne_eq] at hk
    obtain ⟨⟨⟨k1, k2⟩, k3⟩, k4⟩ := hk
    split at k1
    · rename_i c hb
      rintro σ cargs rfl I hargs
      have hcl := repAll_length hargs
      have hent : (callFunc f cargs.toArray).run P σ.w = .ok (.enter f cargs.toArray) σ.w := by
        simp [callFunc, hf, hb, k4]
      rw [hent]
      refine calls_of_wp hf hb ?_
      refine AW_sound (σ0 := σ) hP cc c k1 σ (enter args 0) _ (RetK rd Q) _ I ?_ ⟨by simp; omega, rfl⟩ (Tr.refl _ _) h ?_
      · refine enter_rep args cargs 0 (fun t => (cargs.toArray ++ Array.replicate (fn.ntmps - cargs.toArray.size) undef).getD t undef) hargs fun j v hj => ?_
        obtain ⟨h1, h2⟩ := List.getElem?_eq_some_iff.1 hj
        simp [Array.getD_eq_getD_getElem?, Array.getElem?_append, h1, h2]
      · rintro e tm a σ' I' hf' ha htr ⟨he, hr⟩
        cases hret : retOf tm σ'.H rd with
        | none => rw [hret] at hr; exact hr.elim
        | some q =>
          obtain ⟨cnd, v⟩ := q
          rw [hret] at hr
          obtain ⟨hc, hQ⟩ := hr
          obtain ⟨cv, h1, h2⟩ := retOf_sound I' hf' k2 hret hc
          have key : a.defers = [] ∧ ∃ v, (results fn a.tmps).run P σ'.w = .ok v σ'.w ∧ ∃ v', Ending.returned v = .returned v' ∧ ∃ r σ'', σ''.w = σ'.w ∧ Inv σ'' ∧ RepV σ'' r v' ∧ Tr σ.H.length σ σ'' ∧ Q r σ''.H :=
            ⟨ha.2, cv, h1, cv, rfl, v, σ', rfl, I', h2, htr, hQ⟩
          rcases he with rfl | rfl <;> exact key
    · cases k1
  · cases hk

/-- As without effects; of a result's rooms nothing is told. -/
def RetV (rd : List RD) (r : V) (e : Ex) (tm : TM) (H : HP) : Prop :=
  (e = .normal ∨ e = .ret) ∧ match retOf tm H rd with
    | some (c, v) => c ∧ (fz (fun _ => true) H 8 v).vw = r ∧ (fz (fun _ => true) H 8 v).under 0 = true
    | none => False

theorem TC.vw {f : FuncId} {args : List V} {H : HP} {Q : V → HP → Prop} (h : TC P f args H fun v H' => Q v.vw H') : TC P f args H Q :=
  fun σ cargs h1 h2 h3 => (h σ cargs h1 h2 h3).mono fun _ _ ⟨r, σ', a2, a3, a4, a5, a6⟩ => ⟨r.vw, σ', a2, a3, a4.vw, a5, a6⟩

theorem TCp.of_bodyV (hP : P.follows .mixedOrders = true) {f : FuncId} {cc : CC} {rd : List RD} {args : List V} {r : V} (hk : chkFn P f cc rd args.length = true) (ha : V.underL 0 args = true) (hr : r.under 0 = true)
    (h : AW P 0 cc (RetV rd r) (enter args 0) []) : TCp P f args r := by
  refine TCp.of_nil (TC.vw (TC.of_body hP hk (H := []) ?_)) ha hr
  have hd : (fun t => decide (([] : HP).length ≤ t)) = fun _ => true := funext fun t => by simp
  have : RetG rd ([] : HP).length (fun v _ => v.vw = r) = RetV rd r := by
    funext e tm H
    apply propext
    unfold RetG RetV
    rw [hd]
    cases retOf tm H rd with
    | none => exact Iff.rfl
    | some q => exact ⟨fun ⟨h1, h2, h4, _, _, h3⟩ => ⟨h1, h2, h3, h4⟩, fun ⟨h1, h2, h3, h4⟩ => ⟨h1, h2, h4, rfl, Nat.zero_le _, h3⟩⟩
  rw [this]
  exact h

/-- What the body of a function without effects must come to. -/
def RetP (rd : List RD) (r : V) (e : Ex) (tm : TM) (H : HP) : Prop :=
  (e = .normal ∨ e = .ret) ∧ match retOf tm H rd with
    | some (c, v) => c ∧ fz (fun _ => true) H 8 v = r
    | none => False

theorem TCp.of_body (hP : P.follows .mixedOrders = true) {f : FuncId} {cc : CC} {rd : List RD} {args : List V} {r : V} (hk : chkFn P f cc rd args.length = true) (ha : V.underL 0 args = true) (hr : r.under 0 = true)
    (h : AW P 0 cc (RetP rd r) (enter args 0) []) : TCp P f args r := by
  refine TCp.of_nil (TC.of_body hP hk (H := []) ?_) ha hr
  have hd : (fun t => decide (([] : HP).length ≤ t)) = fun _ => true := funext fun t => by simp
  have : RetG rd ([] : HP).length (fun r' _ => r' = r) = RetP rd r := by
    funext e tm H
    apply propext
    unfold RetG RetP
    rw [hd]
    cases retOf tm H rd with
    | none => exact Iff.rfl
    | some q =>
      refine ⟨fun ⟨h1, h2, _, _, _, h3⟩ => ⟨h1, h2, h3⟩, fun ⟨h1, h2, h3⟩ => ⟨h1, h2, by rw [h3]; exact hr, rfl, Nat.zero_le _, h3⟩⟩
  rw [this]
  exact h
end
end Go.Abs
end
