/-
  Abstract code against the model's: regions in the text's order; in any order, the first operations leaving the abstract heap alone. Abstract code against the model's: regions in any order. Abstract code against the model's: drawn regions in which effects and quiet operations may cross.
  Conditions: those that stand ahead of each theorem; no more.
-/
import Derived.StillTail
import Derived.Test.YtblnejkfaniljaaGreatDoorT10

section
namespace Go.Abs
open Go

def okAct (nt : Nat) (a : Act) : Prop := a.tmps.size = nt ∧ a.defers = []

theorem okAct.put {nt : Nat} {a : Act} (h : okAct nt a) (d : Option Nat) (v : Value) : okAct nt (a.put d v) := ⟨by rw [put_size]; exact h.1, by rw [put_defers]; exact h.2⟩

theorem Tr.all {σ σ' : St} (h : Tr σ.H.length σ σ') (n : Nat) : Tr n σ σ' :=
  { h with
    cells := fun t v _ hv => h.cells t v (List.getElem?_eq_some_iff.1 hv).1 hv
    maps := fun t ks vs _ hv => h.maps t ks vs (List.getElem?_eq_some_iff.1 hv).1 hv
    rows := fun t m sz _ hv => h.rows t m sz (List.getElem?_eq_some_iff.1 hv).1 hv }

theorem Tr.trans' {a b c : St} (h : Tr a.H.length a b) (k : Tr b.H.length b c) : Tr a.H.length a c := h.trans (k.all _)

def chkOpers (P : Program) (ops : Array Oper) (nt : Nat) : List Oper → List COper → Bool
  | [], [] => true
  | o :: os, c :: cs => chkOper P ops nt o c && chkOpers P ops nt os cs
  | _, _ => false

section
variable {P : Program}

theorem OPQ_OPW {o : COper} {ρ : Nat → V} {H : HP} {v : V} (h : OPQ P o ρ H v) : OPW P o ρ H fun v' H' => v' = v ∧ H' = H := by
  obtain ⟨dst, cop, grd⟩ := o
  unfold OPQ at h
  unfold OPW
  dsimp only at h ⊢
  cases grd with
  | none =>
    dsimp only at h ⊢
    cases ht : target ρ cop with
    | some fv =>
      rw [ht] at h
      exact ⟨h.1, _, h.2 H, fun _ _ h => h⟩
    | none =>
      rw [ht] at h
      dsimp only at h ⊢
      cases hp : pure1 cop ρ H with
      | some cv => rw [hp] at h; exact ⟨h.1, h.2.symm, rfl⟩
      | none => rw [hp] at h; exact h.elim
  | some tb =>
    obtain ⟨t, b⟩ := tb
    dsimp only at h ⊢
    cases hg : guardOf (ρ t) b with
    | none => rw [hg] at h; exact h.elim
    | some g =>
      rw [hg] at h
      dsimp only at h ⊢
      cases ht : target ρ cop with
      | some fv =>
        rw [ht] at h
        obtain ⟨r, h1, h2⟩ := h
        exact ⟨r, h1, h2.symm, rfl⟩
      | none =>
        rw [ht] at h
        dsimp only at h ⊢
        cases hp : pure1 cop ρ H with
        | some cv => rw [hp] at h; exact ⟨h.1, h.2.symm, rfl⟩
        | none => rw [hp] at h; exact h.elim

theorem list_sound {ops : Array Oper} {nt : Nat} {K : TM → HP → Prop} {Q : Exit → Act → World → Prop} {σ0 : St} :
    ∀ (n : Nat) (os : List Oper) (cs : List COper) (tm : TM) (σ : St) (a : Act), chkOpers P ops nt os cs = true → Inv σ → RepF σ (lk tm) a → okAct nt a → Tr σ0.H.length σ0 σ → RW P n cs tm σ.H K →
    (∀ tm' a' σ', Inv σ' → RepF σ' (lk tm') a' → okAct nt a' → Tr σ0.H.length σ0 σ' → K tm' σ'.H → Q .normal a' σ'.w) → wpList P ops Q os a σ.w
  | n, [], [], tm, σ, a, _, I, hf, ha, ht, h, hQ => hQ tm a σ I hf ha ht (by cases n <;> exact h)
  | 0, o :: os, c :: cs, tm, σ, a, hk, I, hf, ha, ht, h, hQ => by
    simp only [chkOpers, Bool.and_eq_true] at hk
    have hd : o.dst = c.dst ∧ dstOk a.tmps.size o.dst = true := by
      have := hk.1
      simp only [chkOper, Bool.and_eq_true] at this
      exact ⟨eqDst_eq this.1.1.1, by rw [ha.1]; exact this.1.1.2⟩
    have := op_sound hk.1 I hf h (next := wpList P ops Q os) (Q := Q) fun v cv σ' I' hr htr hK => by
      refine list_sound 0 os cs (put c.dst v tm) σ' (a.put o.dst cv) hk.2 I' ?_ (ha.put _ _) (ht.trans' htr) hK hQ
      rw [lk_put, ← hd.1]
      exact hf.put htr.le hr hd.2
    unfold wpList
    split
    · rename_i hw; rw [if_pos hw] at this; exact .inl this
    · rename_i hw; rw [if_neg hw] at this; exact this
  | n + 1, o :: os, c :: cs, tm, σ, a, hk, I, hf, ha, ht, h, hQ => by
    simp only [chkOpers, Bool.and_eq_true] at hk
    obtain ⟨v, h1, h2⟩ := h
    have hd : o.dst = c.dst ∧ dstOk a.tmps.size o.dst = true := by
      have := hk.1
      simp only [chkOper, Bool.and_eq_true] at this
      exact ⟨eqDst_eq this.1.1.1, by rw [ha.1]; exact this.1.1.2⟩
    have := op_sound hk.1 I hf (OPQ_OPW h1) (next := wpList P ops Q os) (Q := Q) fun v' cv σ' I' hr htr hK => by
      obtain ⟨rfl, hH⟩ := hK
      refine list_sound n os cs (put c.dst v' tm) σ' (a.put o.dst cv) hk.2 I' ?_ (ha.put _ _) (ht.trans' htr) (by rw [hH]; exact h2) hQ
      rw [lk_put, ← hd.1]
      exact hf.put htr.le hr hd.2
    unfold wpList
    split
    · rename_i hw; rw [if_pos hw] at this; exact .inl this
    · rename_i hw; rw [if_neg hw] at this; exact this
  | _, [], _ :: _, _, _, _, hk, _, _, _, _, _, _ => by simp [chkOpers] at hk
  | _, _ :: _, [], _, _, _, hk, _, _, _, _, _, _ => by simp [chkOpers] at hk

/-- What an operation reads. -/
def Opd.tmp? : Opd → Option Nat
  | .t i => some i
  | _ => none
def COper.reads (o : COper) : List Nat := (match o.grd with | some (t, _) => [t] | none => []) ++ o.op.opds.filterMap Opd.tmp?

theorem opv_congr {ρ ρ' : Nat → V} {x : Opd} (h : ∀ t, x.tmp? = some t → ρ t = ρ' t) : opv ρ x = opv ρ' x := by
  cases x <;> first | rfl | exact h _ rfl

theorem there_congr {ρ ρ' : Nat → V} : ∀ {xs : List Opd}, (∀ x ∈ xs, opv ρ x = opv ρ' x) → there ρ xs = there ρ' xs
  | [], _ => rfl
  | x :: xs, h => by
    simp only [there]
    rw [h x (by simp), there_congr fun y hy => h y (by simp [hy])]

theorem setParts_congr {r r' : Opd → V} : ∀ {ps : List (Nat × Opd)} {zs : List V}, (∀ x ∈ ps.map (·.2), r x = r' x) → setParts r zs ps = setParts r' zs ps
  | [], _, _ => rfl
  | (i, x) :: ps, zs, h => by
    simp only [setParts]
    rw [h x (by simp), setParts_congr fun y hy => h y (by simp at hy ⊢; exact .inr hy)]

theorem partsFit_congr {r r' : Opd → V} {zs : List V} : ∀ {ps : List (Nat × Opd)}, (∀ x ∈ ps.map (·.2), r x = r' x) → partsFit r zs ps = partsFit r' zs ps
  | [], _ => rfl
  | (i, x) :: ps, h => by
    simp only [partsFit]
    rw [h x (by simp), partsFit_congr fun y hy => h y (by simp at hy ⊢; exact .inr hy)]

theorem bnd_congr {r r' : Opd → V} {d : Int} {o : Option Opd} (h : ∀ x ∈ o.toList, r x = r' x) : bnd r d o = bnd r' d o := by
  cases o with
  | none => rfl
  | some o => simp only [bnd]; rw [h o (by simp)]

theorem evp_congr {cop : COp} {r r' : Opd → V} {H : HP} (h : ∀ x ∈ cop.opds, r x = r' x) : evp cop r H = evp cop r' H := by
  cases cop <;> simp only [COp.opds, List.mem_cons, List.not_mem_nil, or_false, forall_eq_or_imp, forall_eq, List.mem_append] at h <;>
    first
      | rfl
      | (simp only [evp]; rw [h]; done)
      | (simp only [evp]; rw [h.1, h.2]; done)
      | (simp only [evp]; rw [h.1, h.2.1, h.2.2]; done)
      | skip
  case sliceS x lo hi =>
    have e1 : ∀ d, bnd r d lo = bnd r' d lo := fun d => bnd_congr fun y hy => h.2 y (.inl hy)
    have e2 : ∀ d, bnd r d hi = bnd r' d hi := fun d => bnd_congr fun y hy => h.2 y (.inr hy)
    simp only [evp, h.1, e1, e2]
  case slice sz x lo hi =>
    have e1 : ∀ d, bnd r d lo = bnd r' d lo := fun d => bnd_congr fun y hy => h.2 y (.inl hy)
    have e2 : ∀ d, bnd r d hi = bnd r' d hi := fun d => bnd_congr fun y hy => h.2 y (.inr hy)
    simp only [evp, h.1, e1, e2]
  case slice3 sz x lo hi mx =>
    have e1 : ∀ d, bnd r d lo = bnd r' d lo := fun d => bnd_congr fun y hy => h.2 y (.inl hy)
    simp only [evp, h.1, e1, h.2 hi (.inr (.inl rfl)), h.2 mx (.inr (.inr rfl))]
  case sliceA n sz x lo hi =>
    have e1 : ∀ d, bnd r d lo = bnd r' d lo := fun d => bnd_congr fun y hy => h.2 y (.inl hy)
    have e2 : ∀ d, bnd r d hi = bnd r' d hi := fun d => bnd_congr fun y hy => h.2 y (.inr hy)
    simp only [evp, h.1, e1, e2]
  case mkfn f xs ys => simp only [evp]; rw [List.map_congr_left fun y hy => h y (.inl hy), List.map_congr_left fun y hy => h y (.inr hy)]
  case build zs ps => simp only [evp]; rw [setParts_congr h, partsFit_congr h]
  case lit sz z n ps => simp only [evp]; rw [setParts_congr h, partsFit_congr h]

theorem pure1_congr {cop : COp} {ρ ρ' : Nat → V} {H : HP} (h : ∀ x ∈ cop.opds, opv ρ x = opv ρ' x) : pure1 cop ρ H = pure1 cop ρ' H := by
  have hv : ∀ x ∈ cop.opds, val ρ x = val ρ' x := fun x hx => by unfold val; rw [h x hx]
  have key : ∀ c : COp, (∀ x ∈ c.opds, opv ρ x = opv ρ' x) → (match evp c (val ρ) H with | some (p, v) => some (there ρ c.opds = true ∧ p, v) | none => none) = (match evp c (val ρ') H with | some (p, v) => some (there ρ' c.opds = true ∧ p, v) | none => none) := by
    intro c hc
    rw [evp_congr (r' := val ρ') fun x hx => (by unfold val; rw [hc x hx]), there_congr hc]
  cases cop
  case pick c a b =>
    simp only [COp.opds, List.mem_cons, List.not_mem_nil, or_false, forall_eq_or_imp, forall_eq] at h hv
    simp only [pure1, pickP, h.1, h.2.1, h.2.2, hv.1, hv.2.1, hv.2.2]
  all_goals exact key _ h

theorem target_congr {cop : COp} {ρ ρ' : Nat → V} (h : ∀ x ∈ cop.opds, opv ρ x = opv ρ' x) : target ρ cop = target ρ' cop := by
  have hm : ∀ xs : List Opd, (∀ x ∈ xs, opv ρ x = opv ρ' x) → args1 ρ xs = args1 ρ' xs := fun xs hx => List.map_congr_left fun x h => by unfold val; rw [hx x h]
  cases cop <;> try rfl
  · rename_i f args
    simp only [target]; rw [hm args h]
  · rename_i x args
    simp only [COp.opds, List.mem_cons, forall_eq_or_imp] at h
    have : val ρ x = val ρ' x := by unfold val; rw [h.1]
    simp only [target]; rw [this, hm _ h.2]

theorem OPQ_congr {o : COper} {ρ ρ' : Nat → V} {H : HP} {v : V} (h : ∀ t ∈ o.reads, ρ t = ρ' t) (hq : OPQ P o ρ H v) : OPQ P o ρ' H v := by
  have hx : ∀ x ∈ o.op.opds, opv ρ x = opv ρ' x := fun x hx => opv_congr fun t ht => h t (List.mem_append_right _ (List.mem_filterMap.2 ⟨x, hx, ht⟩))
  have hg : ∀ t b, o.grd = some (t, b) → ρ t = ρ' t := fun t b e => h t (List.mem_append_left _ (by rw [e]; simp))
  obtain ⟨dst, cop, grd⟩ := o
  unfold OPQ at hq ⊢
  dsimp only at hq hx hg ⊢
  rw [← target_congr hx, ← pure1_congr hx, ← there_congr hx]
  cases grd with
  | none => exact hq
  | some tb =>
    obtain ⟨t, b⟩ := tb
    dsimp only at hq ⊢
    rw [← hg t b rfl]
    exact hq
end
end Go.Abs
end

section
namespace Go.Abs
open Go

/-- The temporaries when those operations are done of which p is true. -/
def cur (p : Nat → Bool) : (Nat → V) → List COper → List V → Nat → Nat → V
  | ρ, c :: cs, v :: vs, i => cur p (if p i then upd ρ c.dst v else ρ) cs vs (i + 1)
  | ρ, _, _, _ => ρ

theorem cur_congr {p q : Nat → Bool} {t : Nat} : ∀ {cs : List COper} {vs : List V} {ρ ρ' : Nat → V} {i : Nat}, ρ t = ρ' t → (∀ m c, cs[m]? = some c → c.dst = some t → p (i + m) = q (i + m)) → cur p ρ cs vs i t = cur q ρ' cs vs i t
  | [], _, _, _, _, h, _ => by simpa [cur] using h
  | _ :: _, [], _, _, _, h, _ => by simpa [cur] using h
  | c :: cs, v :: vs, ρ, ρ', i, h, hm => by
    simp only [cur]
    refine cur_congr ?_ fun m c' hc hd => by
      have := hm (m + 1) c' (by simpa using hc) hd
      rw [show i + 1 + m = i + (m + 1) by omega]; exact this
    by_cases hd : c.dst = some t
    · have := hm 0 c rfl hd
      simp only [Nat.add_zero] at this
      rw [this]
      cases q i <;> simp [h, upd, hd]
    · have : ∀ ρ : Nat → V, upd ρ c.dst v t = ρ t := by
        intro ρ
        unfold upd
        cases hh : c.dst with
        | none => rfl
        | some d => simp only; rw [if_neg fun e => hd (by rw [hh, e])]
      cases p i <;> cases q i <;> simp [this, h]

theorem cur_hit {p : Nat → Bool} {t : Nat} {v : V} : ∀ {cs : List COper} {vs : List V} {ρ : Nat → V} {i m : Nat} {c : COper}, cs[m]? = some c → vs[m]? = some v → c.dst = some t → p (i + m) = true →
    (∀ m' c', cs[m']? = some c' → c'.dst = some t → m' = m) → cur p ρ cs vs i t = v
  | [], _, _, _, _, _, h, _, _, _, _ => by simp at h
  | _ :: _, [], _, _, _, _, _, h, _, _, _ => by simp at h
  | c0 :: cs, v0 :: vs, ρ, i, 0, c, h, hv, hd, hp, hu => by
    have e1 : c0 = c := by simpa using h
    have e2 : v0 = v := by simpa using hv
    subst e1; subst e2
    simp only [Nat.add_zero] at hp
    simp only [cur]
    rw [cur_congr (q := fun _ => false) (ρ' := upd ρ c0.dst v0) (by rw [hp]; rfl) fun m c' hc hd' => by
      have := hu (m + 1) c' (by simpa using hc) hd'
      omega]
    have : ∀ (cs : List COper) (vs : List V) (ρ : Nat → V) (i : Nat), cur (fun _ => false) ρ cs vs i = ρ := by
      intro cs
      induction cs with
      | nil => intro vs ρ i; simp [cur]
      | cons c cs ih => intro vs ρ i; cases vs <;> simp [cur, ih]
    rw [this]
    simp [upd, hd]
  | c0 :: cs, v0 :: vs, ρ, i, m + 1, c, h, hv, hd, hp, hu => by
    simp only [cur]
    exact cur_hit (by simpa using h) (by simpa using hv) hd (by rw [show i + 1 + m = i + (m + 1) by omega]; exact hp) fun m' c' hc hd' => by
      have := hu (m' + 1) c' (by simpa using hc) hd'
      omega

theorem cur_set {p p' : Nat → Bool} {cs : List COper} {vs : List V} {ρ : Nat → V} {m : Nat} {c : COper} {v : V} (hc : cs[m]? = some c) (hv : vs[m]? = some v) (hp : p' m = true) (hpp : ∀ j, j ≠ m → p' j = p j)
    (hu : ∀ t, c.dst = some t → ∀ m' c', cs[m']? = some c' → c'.dst = some t → m' = m) : cur p' ρ cs vs 0 = upd (cur p ρ cs vs 0) c.dst v := by
  funext t
  by_cases hd : c.dst = some t
  · rw [cur_hit hc hv hd (by rw [Nat.zero_add]; exact hp) (hu t hd)]
    simp [upd, hd]
  · have : upd (cur p ρ cs vs 0) c.dst v t = cur p ρ cs vs 0 t := by
      unfold upd
      cases hh : c.dst with
      | none => rfl
      | some d => simp only; rw [if_neg fun e => hd (by rw [hh, e])]
    rw [this]
    refine cur_congr rfl fun m' c' hc' hd' => ?_
    simp only [Nat.zero_add]
    refine hpp m' fun e => hd ?_
    subst e
    rw [hc] at hc'
    cases hc'
    exact hd'

theorem cur_take {p : Nat → Bool} : ∀ (i : Nat) (cs : List COper) (vs : List V) (ρ : Nat → V) (k : Nat), cur p ρ (cs.take i) (vs.take i) k = cur (fun m => p m && decide (m < k + i)) ρ cs vs k
  | 0, cs, vs, ρ, k => by
    have : ∀ (cs : List COper) (vs : List V) (ρ : Nat → V) (j : Nat), k ≤ j → cur (fun m => p m && decide (m < k + 0)) ρ cs vs j = ρ := by
      intro cs
      induction cs with
      | nil => intro vs ρ j _; simp [cur]
      | cons c cs ih =>
        intro vs ρ j hj
        cases vs with
        | nil => simp [cur]
        | cons v vs =>
          simp only [cur]
          have hf : ¬ (p j && decide (j < k + 0)) = true := by
            have : decide (j < k + 0) = false := by rw [decide_eq_false_iff_not]; omega
            rw [this, Bool.and_false]
            exact Bool.false_ne_true
          rw [ih vs _ (j + 1) (by omega), if_neg hf]
    rw [this cs vs ρ k (Nat.le_refl _)]
    simp [cur]
  | i + 1, [], vs, ρ, k => by simp [cur]
  | i + 1, c :: cs, [], ρ, k => by simp [cur]
  | i + 1, c :: cs, v :: vs, ρ, k => by
    simp only [List.take_succ_cons, cur]
    rw [cur_take i cs vs _ (k + 1)]
    have h1 : k < k + (i + 1) := by omega
    have h2 : ∀ m, (m < k + 1 + i) = (m < k + (i + 1)) := fun m => by rw [Nat.add_assoc, Nat.add_comm 1 i]
    simp only [h1, h2, decide_true, Bool.and_true]

def puts : TM → List COper → List V → TM
  | tm, c :: cs, v :: vs => puts (put c.dst v tm) cs vs
  | tm, _, _ => tm

theorem lk_puts {p : Nat → Bool} : ∀ (cs : List COper) (vs : List V) (tm : TM) (i : Nat), (∀ m, m < cs.length → p (i + m) = true) → lk (puts tm cs vs) = cur p (lk tm) cs vs i
  | [], _, tm, i, _ => by simp [puts, cur]
  | _ :: _, [], tm, i, _ => by simp [puts, cur]
  | c :: cs, v :: vs, tm, i, h => by
    simp only [puts, cur]
    rw [lk_puts cs vs (put c.dst v tm) (i + 1) (fun m hm => by rw [show i + 1 + m = i + (m + 1) by omega]; exact h (m + 1) (by simpa using hm)), lk_put]
    have := h 0 (by simp)
    simp only [Nat.add_zero] at this
    rw [this]; rfl

/-- The first n operations' values. -/
theorem RW.split {P : Program} {K : TM → HP → Prop} {H : HP} : ∀ (n : Nat) (cs : List COper) (tm : TM), RW P n cs tm H K → ∃ vs : List V, vs.length = min n cs.length ∧
    (∀ k c v, k < n → cs[k]? = some c → vs[k]? = some v → OPQ P c (lk (puts tm (cs.take k) (vs.take k))) H v) ∧ RW P 0 (cs.drop n) (puts tm (cs.take n) vs) H K
  | 0, cs, tm, h => ⟨[], by simp, fun _ _ _ h => by omega, by cases cs <;> simpa [puts] using h⟩
  | n + 1, [], tm, h => ⟨[], by simp, fun _ _ _ _ h => by simp at h, by simpa [puts, RW] using h⟩
  | n + 1, c :: cs, tm, ⟨v, h1, h2⟩ => by
    obtain ⟨vs, k1, k2, k3⟩ := RW.split n cs (put c.dst v tm) h2
    refine ⟨v :: vs, by simp [k1], fun k c' v' hk hc hv => ?_, by simpa [puts] using k3⟩
    cases k with
    | zero =>
      have e1 : c = c' := by simpa using hc
      have e2 : v = v' := by simpa using hv
      subst e1; subst e2
      simpa [puts] using h1
    | succ k =>
      have := k2 k c' v' (by omega) (by simpa using hc) (by simpa using hv)
      simpa [puts] using this

/-- May the first n operations be done in any order that the edges leave? -/
def pairB (ops : Array Oper) (cs : List COper) (m k : Nat) : Bool :=
  match cs[m]?, cs[k]? with
  | some c, some d => (match c.dst, d.dst with | some x, some y => !Nat.beq x y | _, _ => true) &&
      (Region.waitsFor .any ops k m || ((match c.dst with | some x => !d.reads.contains x | none => true) && (match d.dst with | some y => !c.reads.contains y | none => true)))
  | _, _ => false

def backB (ops : Array Oper) (n : Nat) : Bool := (List.range n).all fun k => match ops[k]? with
  | some o => o.after.all fun e => !Region.binds .any e || decide (e.on < k)
  | none => false

def anyB (ops : Array Oper) (cs : List COper) (n : Nat) : Bool :=
  decide (n ≤ ops.size) && decide (cs.length = ops.size) && (List.range n).all (fun k => (List.range k).all fun m => pairB ops cs m k) && backB ops n &&
  (decide (n = ops.size) || (Region.sinkB .any ops n && Region.chainB .any ops n)) &&
  Region.seqB .any ops (ops.size - n) n (Array.replicate n true ++ Array.replicate (ops.size - n) false)

section
variable {P : Program} {ops : Array Oper} {cs : List COper} {n nt : Nat}

theorem pairB_spec {m k : Nat} {c d : COper} (h : pairB ops cs m k = true) (hc : cs[m]? = some c) (hd : cs[k]? = some d) :
    (∀ x, c.dst = some x → d.dst ≠ some x) ∧ (Region.waitsFor .any ops k m = true ∨ ((∀ x, c.dst = some x → x ∉ d.reads) ∧ ∀ y, d.dst = some y → y ∉ c.reads)) := by
  unfold pairB at h
  rw [hc, hd] at h
  simp only [Bool.and_eq_true, Bool.or_eq_true] at h
  obtain ⟨h1, h2⟩ := h
  refine ⟨fun x hx hy => ?_, h2.imp id fun ⟨h3, h4⟩ => ⟨fun x hx => ?_, fun y hy => ?_⟩⟩
  · rw [hx, hy] at h1
    simp at h1
  · rw [hx] at h3
    simpa using h3
  · rw [hy] at h4
    simpa using h4

theorem chkOpers_length : ∀ {os : List Oper} {cs : List COper}, chkOpers P ops nt os cs = true → os.length = cs.length
  | [], [], _ => rfl
  | [], _ :: _, h => by simp [chkOpers] at h
  | _ :: _, [], h => by simp [chkOpers] at h
  | o :: os, c :: cs, h => by
    simp only [chkOpers, Bool.and_eq_true] at h
    simp [chkOpers_length h.2]

theorem chkOpers_get : ∀ {os : List Oper} {cs : List COper} {i : Nat} {o : Oper} {c : COper}, chkOpers P ops nt os cs = true → os[i]? = some o → cs[i]? = some c → chkOper P ops nt o c = true
  | [], _, _, _, _, _, h, _ => by simp at h
  | _ :: _, [], _, _, _, _, _, h => by simp at h
  | o :: os, c :: cs, 0, _, _, hk, h1, h2 => by
    simp only [chkOpers, Bool.and_eq_true] at hk
    simp at h1 h2
    subst h1; subst h2
    exact hk.1
  | o :: os, c :: cs, i + 1, _, _, hk, h1, h2 => by
    simp only [chkOpers, Bool.and_eq_true] at hk
    exact chkOpers_get hk.2 (by simpa using h1) (by simpa using h2)

theorem chkOpers_drop : ∀ {os : List Oper} {cs : List COper} (i : Nat), chkOpers P ops nt os cs = true → chkOpers P ops nt (os.drop i) (cs.drop i) = true
  | _, _, 0, h => by simpa using h
  | [], [], i + 1, _ => by simp [chkOpers]
  | o :: os, c :: cs, i + 1, h => by
    simp only [chkOpers, Bool.and_eq_true] at h
    simpa using chkOpers_drop i h.2
  | [], _ :: _, _, h => by simp [chkOpers] at h
  | _ :: _, [], _, h => by simp [chkOpers] at h

theorem ready_some (hb : backB ops n = true) (hn : n ≤ ops.size) {listed : Array Bool} (hs : listed.size = ops.size) : ∀ i, i < n → listed.getD i true = false → ∃ j, j ∈ Region.ready .any ops listed := by
  intro i
  induction i using Nat.strongRecOn with
  | _ i ih =>
    intro hi hun
    have h1 := List.all_eq_true.1 hb i (List.mem_range.2 hi)
    split at h1
    · rename_i o ho
      by_cases hall : ∀ e ∈ o.after, Region.binds .any e = true → listed.getD e.on false = true
      · exact ⟨i, mem_ready.2 ⟨hun, o, ho, hall⟩⟩
      · have hall : ∃ e ∈ o.after, Region.binds .any e = true ∧ listed.getD e.on false = false := by
          apply Classical.byContradiction
          intro hno
          refine hall fun e he hbn => ?_
          cases hh : listed.getD e.on false with
          | true => rfl
          | false => exact (hno ⟨e, he, hbn, hh⟩).elim
        obtain ⟨e, he, hbn, hl⟩ := hall
        have h2 := Array.all_eq_true'.1 h1 e he
        simp only [hbn, Bool.not_true, Bool.false_or, decide_eq_true_eq] at h2
        exact ih e.on h2 (by omega) (getD_in (by omega) hl)
    · cases h1

def cnt (n : Nat) (listed : Array Bool) : Nat := ((List.range n).filter fun i => listed.getD i true == false).length

theorem cnt_set {listed : Array Bool} {i : Nat} (hi : i < n) (hs : i < listed.size) (hun : listed.getD i true = false) : cnt n listed = cnt n (listed.setIfInBounds i true) + 1 := by
  unfold cnt
  have key : ∀ m, ((List.range m).filter fun j => listed.getD j true == false).length = ((List.range m).filter fun j => (listed.setIfInBounds i true).getD j true == false).length + (if i < m then 1 else 0) := by
    intro m
    induction m with
    | zero => simp
    | succ m ih =>
      rw [List.range_succ, List.filter_append, List.filter_append, List.length_append, List.length_append, ih]
      by_cases e : i = m
      · subst e
        have h1 : (listed.setIfInBounds i true).getD i true = true := by simp [hs]
        simp only [List.filter_cons, List.filter_nil, hun, h1]
        simp
      · have h1 : (listed.setIfInBounds i true).getD m true = listed.getD m true := getD_set_ne true e
        simp only [List.filter_cons, List.filter_nil, h1]
        have : (i < m) ↔ (i < m + 1) := by omega
        by_cases h2 : i < m
        · rw [if_pos h2, if_pos (this.1 h2)]; omega
        · rw [if_neg h2, if_neg (fun h => h2 (this.2 h))]; omega
  have := key n
  rw [if_pos hi] at this
  exact this

theorem cnt_zero {listed : Array Bool} (h : cnt n listed = 0) : ∀ i, i < n → listed.getD i true = true := by
  intro i hi
  unfold cnt at h
  have := List.filter_eq_nil_iff.1 (List.length_eq_zero_iff.1 h) i (List.mem_range.2 hi)
  cases hh : listed.getD i true with
  | true => rfl
  | false => rw [hh] at this; simp at this

theorem any_head {l : List Oper} {vs : List V} {tm : TM} {K : TM → HP → Prop} {Q : Exit → Act → World → Prop} {σ0 : St} {H : HP} (ho : ops = l.toArray) (hk : chkOpers P ops nt l cs = true) (hB : anyB ops cs n = true) (hvl : vs.length = n)
    (hv : ∀ k c v, k < n → cs[k]? = some c → vs[k]? = some v → OPQ P c (lk (puts tm (cs.take k) (vs.take k))) H v) (hrest : RW P 0 (cs.drop n) (puts tm (cs.take n) vs) H K)
    (hQ : ∀ tm' a' σ', Inv σ' → RepF σ' (lk tm') a' → okAct nt a' → Tr σ0.H.length σ0 σ' → K tm' σ'.H → Q .normal a' σ'.w) :
    ∀ (c : Nat) (listed : Array Bool) (σ : St) (a : Act), HeadInv .any ops n listed → cnt n listed = c → Inv σ → σ.H = H → RepF σ (cur (fun m => listed.getD m false) (lk tm) (cs.take n) vs 0) a → okAct nt a → Tr σ0.H.length σ0 σ →
      wpAny P .any ops Q (c + (ops.size - n)) listed a σ.w := by
  simp only [anyB, Bool.and_eq_true, Bool.or_eq_true, decide_eq_true_eq] at hB
  obtain ⟨⟨⟨⟨⟨hn, hcl⟩, hpair⟩, hback⟩, htail⟩, hseq⟩ := hB
  have hpair : ∀ m k, m < k → k < n → pairB ops cs m k = true := fun m k h1 h2 => List.all_eq_true.1 (List.all_eq_true.1 hpair k (List.mem_range.2 h2)) m (List.mem_range.2 h1)
  have hlen : l.length = ops.size := by rw [ho]; simp
  intro c
  induction c with
  | zero =>
    intro listed σ a inv hc I hH hf ha htr
    have hall := cnt_zero hc
    have hlisted : listed = Array.replicate n true ++ Array.replicate (ops.size - n) false := by
      apply Array.ext
      · rw [inv.size]; simp; omega
      · intro i h1 h2
        have hg : listed[i] = listed.getD i true := by simp only [Array.getD_eq_getD_getElem?, Array.getElem?_eq_getElem h1, Option.getD_some]
        rw [Array.getElem_append]
        split
        · rename_i h
          rw [hg.trans (hall i (by simpa using h)), Array.getElem_replicate]
        · rename_i h
          rw [hg.trans (inv.tail i (by simpa using h) (by rw [← inv.size]; exact h1)), Array.getElem_replicate]
    rw [Nat.zero_add]
    have hdl : (l.drop n).length = ops.size - n := by rw [List.length_drop, hlen]
    have hlk : cur (fun m => listed.getD m false) (lk tm) (cs.take n) vs 0 = lk (puts tm (cs.take n) vs) := by
      rw [lk_puts (p := fun m => listed.getD m false) _ _ _ 0 fun m hm => ?_]
      have hmn : m < n := by simp at hm; omega
      have := hall m hmn
      have hms : m < listed.size := by rw [inv.size]; omega
      simp [hms] at this ⊢
      exact this
    rw [hlk] at hf
    have hw : wpList P ops Q (l.drop n) a σ.w := list_sound 0 (l.drop n) (cs.drop n) _ σ a (chkOpers_drop n hk) I hf ha htr (by rw [hH]; exact hrest) hQ
    have := wpAny_of_seq (md := .any) (Q' := Q) (l.drop n) n listed a σ.w (fun j => by rw [ho]; simp [List.getElem?_drop]) (by rw [hdl, hlisted]; exact hseq) hw
    rwa [hdl] at this
  | succ c ih =>
    intro listed σ a inv hc I hH hf ha htr
    have hex : ∃ i, i < n ∧ listed.getD i true = false := by
      apply Classical.byContradiction
      intro hno
      have : cnt n listed = 0 := by
        unfold cnt
        rw [List.length_eq_zero_iff, List.filter_eq_nil_iff]
        intro i hi
        cases hh : listed.getD i true with
        | true => simp
        | false => exact (hno ⟨i, List.mem_range.1 hi, hh⟩).elim
      omega
    obtain ⟨i0, hi0, hun0⟩ := hex
    rw [show c + 1 + (ops.size - n) = (c + (ops.size - n)) + 1 by omega]
    refine ⟨fun h0 => ?_, fun i hi => ?_⟩
    · obtain ⟨j, hj⟩ := ready_some hback hn inv.size i0 hi0 hun0
      rw [h0] at hj
      cases hj
    · obtain ⟨hun, oi, hoi, hall⟩ := mem_ready.1 hi
      have his : i < ops.size := (Array.getElem?_eq_some_iff.1 hoi).1
      have hin : i < n := by
        rcases htail with h | ⟨hs, hc'⟩
        · omega
        · rcases Nat.lt_or_ge i n with h | h
          · exact h
          · rcases Nat.lt_or_ge n ops.size with h' | h'
            · exact absurd hi (tail_waits hs hc' h' inv _ i0 rfl hi0 hun0 i h)
            · omega
      have hils : i < listed.size := by rw [inv.size]; exact his
      have hci : ∃ ci, cs[i]? = some ci := ⟨cs[i]'(by omega), List.getElem?_eq_getElem (by omega)⟩
      obtain ⟨ci, hci⟩ := hci
      have hvi : ∃ vi, vs[i]? = some vi := ⟨vs[i]'(by omega), List.getElem?_eq_getElem (by omega)⟩
      obtain ⟨vi, hvi⟩ := hvi
      have hcit : (cs.take n)[i]? = some ci := by rw [List.getElem?_take, if_pos hin]; exact hci
      have hoil : l[i]? = some oi := by rw [ho] at hoi; simpa using hoi
      have hchk := chkOpers_get hk hoil hci
      have hun' : listed.getD i false = false := getD_both hun
      have hq := hv i ci vi hin hci hvi
      have hq' : OPQ P ci (cur (fun m => listed.getD m false) (lk tm) (cs.take n) vs 0) σ.H vi := by
        rw [hH]
        refine OPQ_congr (fun t ht => ?_) hq
        have e1 : lk (puts tm (cs.take i) (vs.take i)) = cur (fun _ => true) (lk tm) (cs.take i) (vs.take i) 0 := lk_puts (p := fun _ => true) _ _ _ 0 fun _ _ => rfl
        have e2 : cur (fun m => listed.getD m false) (lk tm) (cs.take n) vs 0 = cur (fun m => listed.getD m false) (lk tm) (cs.take n) (vs.take n) 0 := by rw [← hvl, List.take_length]
        rw [e1, e2, cur_take, cur_take]
        refine cur_congr rfl fun m cm hcm hdm => ?_
        simp only [Nat.zero_add, Bool.true_and]
        rcases Nat.lt_or_ge m n with hmn | hmn
        · rcases Nat.lt_trichotomy m i with hmi | rfl | hmi
          · rcases (pairB_spec (hpair m i hmi hin) hcm hci).2 with h | h
            · obtain ⟨o', ho', e, he, hb, hon⟩ := Region.waitsFor_spec h
              have : o' = oi := Option.some.inj (ho'.symm.trans hoi)
              subst this
              have := hall e he hb
              rw [hon] at this
              simp [this, hmi, hmn]
            · exact (h.1 t hdm ht).elim
          · simp [hun']
          · have : listed.getD m false = false := by
              rcases (pairB_spec (hpair i m hmi hmn) hci hcm).2 with h | h
              · obtain ⟨o', ho', e, he, hb, hon⟩ := Region.waitsFor_spec h
                cases hl : listed.getD m false with
                | false => rfl
                | true =>
                  have := inv.closed m o' ho' hl e he hb
                  rw [hon, hun'] at this
                  cases this
              · exact (h.2 t hdm ht).elim
            have h2 : ¬ m < i := by omega
            simp [this, h2]
        · have h1 : ¬ m < i := by omega
          have h2 : ¬ m < n := by omega
          simp [h1, h2]
      have := op_sound (ops := ops) hchk I hf (OPQ_OPW hq') (next := wpAny P .any ops Q (c + (ops.size - n)) (listed.setIfInBounds i true)) (Q := Q) fun v cv σ' I' hr htr' hK => by
        obtain ⟨rfl, hH'⟩ := hK
        refine ih (listed.setIfInBounds i true) σ' (a.put oi.dst cv) (inv.set hi hin) ?_ I' (hH'.trans hH) ?_ (ha.put _ _) (htr.trans' htr')
        · have := cnt_set (n := n) hin hils hun
          omega
        · have hset := cur_set (p := fun m => listed.getD m false) (p' := fun m => (listed.setIfInBounds i true).getD m false) (ρ := lk tm) hcit hvi (by simp [hils]) (fun j hj => getD_set_ne false fun e => hj e.symm) fun t ht m' c' hc' hd' => by
            have hc'' : cs[m']? = some c' ∧ m' < n := by
              rw [List.getElem?_take] at hc'
              split at hc'
              · exact ⟨hc', by assumption⟩
              · cases hc'
            rcases Nat.lt_trichotomy m' i with h | h | h
            · exact ((pairB_spec (hpair m' i h hin) hc''.1 hci).1 t hd' ht).elim
            · exact h
            · exact ((pairB_spec (hpair i m' h hc''.2) hci hc''.1).1 t ht hd').elim
          rw [hset]
          have hd := hchk
          simp only [chkOper, Bool.and_eq_true] at hd
          rw [← eqDst_eq hd.1.1.1]
          exact hf.put htr'.le hr (by rw [ha.1]; exact hd.1.1.2)
      unfold wpOp
      rw [hoi]
      dsimp only
      split
      · rename_i hw; rw [if_pos hw] at this; exact .inl this
      · rename_i hw; rw [if_neg hw] at this; exact this
end
end Go.Abs
end

section
namespace Go.Abs
open Go

def pendOk (P : Program) (cur : Nat) (H : HP) : List (Nat × COper × TM × V) → Prop
  | [] => True
  | (hi, o, tm, v) :: ps => (cur ≤ hi → OPQ P o (lk tm) H v) ∧ pendOk P cur H ps

def histOk (P : Program) (lo : Nat) (o : COper) (tm : TM) (v : V) : List HP → Prop
  | [] => True
  | H :: hs => (lo ≤ hs.length → OPQ P o (lk tm) H v) ∧ histOk P lo o tm v hs

/-- Does an operation leave nothing open? -/
def COp.det : COp → Bool
  | .nilSl _ _ | .appendA .. => false
  | _ => true

/-- Such a region, in the text's order; what is done elsewhere in the order told the same. -/
def RM (P : Program) : List MOp → TM → HP → List HP → List (Nat × COper × TM × V) → (TM → HP → Prop) → Prop
  | [], tm, H, _, _, K => K tm H
  | m :: ms, tm, H, hs, ps, K => match m.eff with
    | true => m.op.op.det = true ∧ m.op.grd = none ∧ target (lk tm) m.op.op = none ∧ pure1 m.op.op (lk tm) H = none ∧ OPW P m.op (lk tm) H fun v H' => pendOk P (hs.length + 1) H' ps ∧ RM P ms (put m.op.dst v tm) H' (H :: hs) ps K
    | false => ∃ v, OPQ P m.op (lk tm) H v ∧ histOk P m.lo m.op tm v hs ∧ RM P ms (put m.op.dst v tm) H hs ((m.hi, m.op, tm, v) :: ps) K

theorem eve_det {o : COp} {r : Opd → V} {H : HP} {K : V → HP → Prop} (hd : o.det = true) (h : eve o r H K) : ∃ v H', eve o r H (fun v' H'' => v' = v ∧ H'' = H') ∧ K v H' := by
  cases o <;> simp only [eve] at h ⊢ <;> try exact h.elim
  case nilSl => cases hd
  case appendA => cases hd
  case clear =>
    split at h
    · exact ⟨_, _, ⟨h.1, rfl, rfl⟩, h.2⟩
    · split at h
      · split at h
        · obtain ⟨h1, h2, h4⟩ := h
          split at h4
          · exact ⟨_, _, ⟨h1, h2, rfl, rfl⟩, h4⟩
          · exact h4.elim
        · exact h.elim
      · exact h.elim
    · exact h.elim
  case alloc => exact ⟨_, _, ⟨rfl, rfl⟩, h⟩
  case box => exact ⟨_, _, ⟨h.1, rfl, rfl⟩, h.2⟩
  case store =>
    split at h
    · split at h
      · split at h
        · obtain ⟨h1, h2, h3, h4⟩ := h
          exact ⟨_, _, ⟨h1, h2, h3, rfl, rfl⟩, h4⟩
        · exact h.elim
      · exact h.elim
    · exact h.elim
  case append =>
    split at h
    · split at h
      · obtain ⟨h1, h2, h3, h4⟩ := h
        split at h4
        · exact ⟨_, _, ⟨h1, h2, h3, rfl, rfl⟩, h4⟩
        · exact ⟨_, _, ⟨h1, h2, h3, h4.1, rfl, rfl⟩, h4.2⟩
        · exact h4.elim
      · exact h.elim
    · exact h.elim
  case mkslA =>
    split at h
    · obtain ⟨h1, h2, h3, h4⟩ := h
      exact ⟨_, _, ⟨h1, h2, h3, rfl, rfl⟩, h4⟩
    · exact h.elim
  case mkslR =>
    split at h
    · obtain ⟨h1, h2, h3, h4, h5⟩ := h
      exact ⟨_, _, ⟨h1, h2, h3, h4, rfl, rfl⟩, h5⟩
    · exact h.elim
  case mkmap => exact ⟨_, _, ⟨rfl, rfl⟩, h⟩
  case mapup =>
    split at h
    · split at h
      · obtain ⟨h1, h2, h3, h4, h5⟩ := h
        split at h5
        · exact ⟨_, _, ⟨h1, h2, h3, h4, rfl, rfl⟩, h5⟩
        · exact ⟨_, _, ⟨h1, h2, h3, h4, rfl, rfl⟩, h5⟩
      · exact h.elim
    · exact h.elim
  case delete =>
    split at h
    · split at h
      · obtain ⟨h1, h2, h3, h4⟩ := h
        split at h4
        · exact ⟨_, _, ⟨h1, h2, h3, rfl, rfl⟩, h4⟩
        · exact ⟨_, _, ⟨h1, h2, h3, rfl, rfl⟩, h4⟩
      · exact h.elim
    · exact h.elim
  case copyA =>
    split at h
    · split at h
      · split at h
        · obtain ⟨h1, h2, h3, h4⟩ := h
          split at h4
          · exact ⟨_, _, ⟨h1, h2, h3, rfl, rfl⟩, h4⟩
          · exact h4.elim
        · exact h.elim
      · exact h.elim
    · exact h.elim
  case s2bR =>
    split at h
    · exact ⟨_, _, ⟨rfl, rfl⟩, h⟩
    · exact h.elim

theorem OPW_det {P : Program} {o : COper} {ρ : Nat → V} {H : HP} {K : V → HP → Prop} (h0 : o.op.det = true) (h1 : o.grd = none) (h2 : target ρ o.op = none) (h3 : pure1 o.op ρ H = none) (h : OPW P o ρ H K) :
    ∃ v H', OPW P o ρ H (fun v' H'' => v' = v ∧ H'' = H') ∧ K v H' := by
  obtain ⟨d, op, g⟩ := o
  dsimp only at h0 h1 h2 h3
  subst h1
  unfold OPW at h ⊢
  dsimp only at h ⊢
  rw [h2, h3] at h
  rw [h2, h3]
  obtain ⟨ht, he⟩ := h
  obtain ⟨v, H', h4, h5⟩ := eve_det h0 he
  exact ⟨v, H', ⟨ht, h4⟩, h5⟩

def effAt (ms : List MOp) (k : Nat) : Bool := ((ms[k]?).map (·.eff)).getD false

/-- The effects before a place. -/
def rank (ms : List MOp) (k : Nat) : Nat := (List.range ms.length).countP fun m => effAt ms m && decide (m < k)

theorem pendOk_get {P : Program} {cur : Nat} {H : HP} : ∀ {ps : List (Nat × COper × TM × V)}, pendOk P cur H ps → ∀ p ∈ ps, cur ≤ p.1 → OPQ P p.2.1 (lk p.2.2.1) H p.2.2.2
  | [], _, _, hp => by cases hp
  | (hi, o, tm, v) :: ps, ⟨h1, h2⟩, p, hp => by
    rcases List.mem_cons.1 hp with rfl | hp
    · exact h1
    · exact pendOk_get h2 p hp

theorem histOk_get {P : Program} {lo : Nat} {o : COper} {tm : TM} {v : V} : ∀ {hs : List HP}, histOk P lo o tm v hs → ∀ j H, lo ≤ j → hs.reverse[j]? = some H → OPQ P o (lk tm) H v
  | [], _, _, _, _, h => by simp at h
  | G :: hs, ⟨h1, h2⟩, j, H, hlo, h => by
    simp only [List.reverse_cons] at h
    rcases Nat.lt_or_ge j hs.length with hj | hj
    · rw [List.getElem?_append_left (by simpa using hj)] at h
      exact histOk_get h2 j H hlo h
    · have hj' : j = hs.length := by
        have := (List.getElem?_eq_some_iff.1 h).1
        simp at this; omega
      subst hj'
      have : G = H := by simpa using h
      subst this
      exact h1 hlo

/-- The heaps of a run in the text's order, and what is told. -/
theorem RM.split {P : Program} {K : TM → HP → Prop} : ∀ (ms : List MOp) (tm : TM) (H : HP) (hs : List HP) (ps : List (Nat × COper × TM × V)), RM P ms tm H hs ps K → ∃ (vs : List V) (Hs : List HP), vs.length = ms.length ∧ Hs.length = ms.countP (·.eff) ∧
    (∀ k m v, ms[k]? = some m → vs[k]? = some v → m.eff = false → ∀ j G, m.lo ≤ j → j ≤ m.hi → (hs.reverse ++ H :: Hs)[j]? = some G → OPQ P m.op (lk (puts tm ((ms.map (·.op)).take k) (vs.take k))) G v) ∧
    (∀ k m v, ms[k]? = some m → vs[k]? = some v → m.eff = true → ∃ G G', (hs.reverse ++ H :: Hs)[hs.length + (ms.take k).countP (·.eff)]? = some G ∧ (hs.reverse ++ H :: Hs)[hs.length + (ms.take k).countP (·.eff) + 1]? = some G' ∧ OPW P m.op (lk (puts tm ((ms.map (·.op)).take k) (vs.take k))) G fun v' H' => v' = v ∧ H' = G') ∧
    (∀ p ∈ ps, ∀ j G, hs.length < j → j ≤ p.1 → (hs.reverse ++ H :: Hs)[j]? = some G → OPQ P p.2.1 (lk p.2.2.1) G p.2.2.2) ∧
    ∃ G, (hs.reverse ++ H :: Hs)[hs.length + ms.countP (·.eff)]? = some G ∧ K (puts tm (ms.map (·.op)) vs) G
  | [], tm, H, hs, ps, h => ⟨[], [], rfl, rfl, fun _ _ _ h => by simp at h, fun _ _ _ h => by simp at h, fun p hp j G h1 h2 h3 => by
      have := (List.getElem?_eq_some_iff.1 h3).1
      simp at this; omega, H, by simp, by simpa [puts, RM] using h⟩
  | m :: ms, tm, H, hs, ps, h => by
    unfold RM at h
    cases hm : m.eff with
    | true =>
      rw [hm] at h
      dsimp only at h
      obtain ⟨g0, g1, g2, g3, g4⟩ := h
      obtain ⟨v, H', h4, h5, h6⟩ := OPW_det g0 g1 g2 g3 g4
      obtain ⟨vs, Hs, a1, a2, a3, a4, a5, a6⟩ := RM.split ms _ H' (H :: hs) ps h6
      have hall : (H :: hs).reverse ++ H' :: Hs = hs.reverse ++ H :: (H' :: Hs) := by simp
      rw [hall] at a3 a4 a5 a6
      have hc : (m :: ms).countP (·.eff) = ms.countP (·.eff) + 1 := by simp [hm]
      refine ⟨v :: vs, H' :: Hs, by simp [a1], by rw [hc]; simp [a2], ?_, ?_, ?_, ?_⟩
      · intro k x u hx hu he j G hlo hhi hG
        cases k with
        | zero => have : m = x := by simpa using hx
                  subst this; rw [hm] at he; cases he
        | succ k => simpa [puts] using a3 k x u (by simpa using hx) (by simpa using hu) he j G hlo hhi hG
      · intro k x u hx hu he
        cases k with
        | zero =>
          have e1 : m = x := by simpa using hx
          have e2 : v = u := by simpa using hu
          subst e1; subst e2
          exact ⟨H, H', by simp, by simp, by simpa [puts] using h4⟩
        | succ k =>
          obtain ⟨G, G', b1, b2, b3⟩ := a4 k x u (by simpa using hx) (by simpa using hu) he
          have e : (H :: hs).length + (ms.take k).countP (·.eff) = hs.length + ((m :: ms).take (k + 1)).countP (·.eff) := by simp [hm]; omega
          rw [e] at b1 b2
          exact ⟨G, G', b1, b2, by simpa [puts] using b3⟩
      · intro p hp j G h1 h2 h3
        rcases Nat.lt_or_ge hs.length.succ j with hj | hj
        · exact a5 p hp j G (by simpa using hj) h2 h3
        · have : j = hs.length + 1 := by omega
          subst this
          have : H' = G := by
            rw [List.getElem?_append_right (by simp)] at h3
            simpa using h3
          subst this
          exact pendOk_get h5 p hp h2
      · obtain ⟨G, b1, b2⟩ := a6
        refine ⟨G, ?_, by simpa [puts] using b2⟩
        rw [hc, ← b1]
        congr 1
        simp; omega
    | false =>
      rw [hm] at h
      dsimp only at h
      obtain ⟨v, h1, h2, h3⟩ := h
      obtain ⟨vs, Hs, a1, a2, a3, a4, a5, a6⟩ := RM.split ms _ H hs _ h3
      have hc : (m :: ms).countP (·.eff) = ms.countP (·.eff) := by simp [hm]
      refine ⟨v :: vs, Hs, by simp [a1], by rw [hc]; exact a2, ?_, ?_, fun p hp => a5 p (by simp [hp]), ?_⟩
      · intro k x u hx hu he j G hlo hhi hG
        cases k with
        | zero =>
          have e1 : m = x := by simpa using hx
          have e2 : v = u := by simpa using hu
          subst e1; subst e2
          simp only [List.take_zero, puts]
          rcases Nat.lt_trichotomy j hs.length with hj | hj | hj
          · rw [List.getElem?_append_left (by simpa using hj)] at hG
            exact histOk_get h2 j G hlo hG
          · subst hj
            rw [List.getElem?_append_right (by simp)] at hG
            have : H = G := by simpa using hG
            subst this
            exact h1
          · exact a5 (m.hi, m.op, tm, v) (by simp) j G hj hhi hG
        | succ k => simpa [puts] using a3 k x u (by simpa using hx) (by simpa using hu) he j G hlo hhi hG
      · intro k x u hx hu he
        cases k with
        | zero => have : m = x := by simpa using hx
                  subst this; rw [hm] at he; cases he
        | succ k =>
          obtain ⟨G, G', b1, b2, b3⟩ := a4 k x u (by simpa using hx) (by simpa using hu) he
          have e : (ms.take k).countP (·.eff) = ((m :: ms).take (k + 1)).countP (·.eff) := by simp [hm]
          rw [e] at b1 b2
          exact ⟨G, G', b1, b2, by simpa [puts] using b3⟩
      · obtain ⟨G, b1, b2⟩ := a6
        rw [hc]
        exact ⟨G, b1, by simpa [puts] using b2⟩
end Go.Abs
end
