/-
  Abstract code: how it is gone through. Abstract code: several results of whose rooms nothing is told. Abstract code: calls that only read what is in memory; calls whose contract is the library's.
  Conditions: those that stand ahead of each theorem; no more.
-/
import Derived.Below
import Derived.Test.YtblnejkfaniljaaGreatDoorT14

section
namespace Go.Abs
open Go

section
variable {P : Program} {n0 : Nat} {Q : Ex → TM → HP → Prop} {tm : TM} {H : HP}

theorem AW_skip : AW P n0 .skip Q tm H = Q .normal tm H := rfl
theorem AW_reg {d : Option Nat} {ops : List COper} {live : List Nat} : AW P n0 (.reg d ops live) Q tm H = RW P (d.getD 0) ops tm H fun tm' H' => Q .normal (keepLive tm' live) H' := rfl
theorem AW_seq {x y : CC} : AW P n0 (.seq x y) Q tm H = AW P n0 x (fun e => match e with | .normal => AW P n0 y Q | e => Q e) tm H := rfl
theorem AW_cond {c : Opd} {x y : CC} : AW P n0 (.cond c x y) Q tm H = ∃ b, there (lk tm) [c] = true ∧ val (lk tm) c = .bool b ∧ (b = true → AW P n0 x Q tm H) ∧ (b = false → AW P n0 y Q tm H) := rfl
theorem AW_block {i : Nat} {c : CC} : AW P n0 (.block i c) Q tm H = AW P n0 c (fun e => match e with | .exit j => if j = i then Q .normal else Q (.exit j) | e => Q e) tm H := rfl
theorem AW_exit {i : Nat} : AW P n0 (.exit i) Q tm H = Q (.exit i) tm H := rfl
theorem AW_label : AW P n0 .label Q tm H = Q .normal tm H := rfl
theorem AW_goto {i : Nat} : AW P n0 (.goto i) Q tm H = Q (.goto i) tm H := rfl
theorem AW_ret : AW P n0 .ret Q tm H = Q .ret tm H := rfl

/-- A loop: what its rounds look like, and what gets less. -/
theorem AW_loop {c : CC} {S : Type} (tmf : S → TM) (hf : S → HP) (I : S → Prop) (μ : S → Nat) (s0 : S) (h0 : I s0) (e1 : tm = tmf s0) (e2 : H = hf s0)
    (step : ∀ s, I s → AW P n0 c (fun e => match e with | .normal => fun tm' H' => ∃ s', I s' ∧ μ s' < μ s ∧ tm' = tmf s' ∧ H' = hf s' | e => Q e) (tmf s) (hf s)) : AW P n0 (.loop c) Q tm H := by
  refine ⟨fun n tm H => ∃ s, I s ∧ μ s = n ∧ tm = tmf s ∧ H = hf s, ⟨_, s0, h0, rfl, e1, e2⟩, ?_⟩
  rintro n tm' H' ⟨s, hs, rfl, rfl, rfl⟩
  have := step s hs
  refine Eq.mp ?_ this
  congr 1
  funext e
  cases e <;> first | rfl | skip
  funext tm' H'
  apply propext
  exact ⟨fun ⟨s', a, b, c, d⟩ => ⟨_, b, s', a, rfl, c, d⟩, fun ⟨m, hm, s', a, b, c, d⟩ => ⟨s', a, by omega, c, d⟩⟩
end

/-- Other values in the temporaries. -/
def setTM : TM → Nat → V → TM
  | [], _, _ => []
  | (j, u) :: r, i, v => if j = i then (j, v) :: r else (j, u) :: setTM r i v

theorem lk_setTM {tm : TM} {i : Nat} {v : V} (t : Nat) : lk (setTM tm i v) t = lk tm t ∨ (t = i ∧ lk (setTM tm i v) t = v) := by
  induction tm with
  | nil => exact .inl rfl
  | cons x r ih =>
    obtain ⟨j, u⟩ := x
    simp only [setTM]
    split
    · rename_i e
      subst e
      simp only [lk]
      split
      · rename_i e; exact .inr ⟨e.symm, rfl⟩
      · exact .inl rfl
    · simp only [lk]
      split
      · exact .inl rfl
      · exact ih

/-- A slice with no room and no elements is the beginning of a row. -/
theorem Weak.open {n0 : Nat} {tm : TM} {H : HP} (i sz : Nat) (h : lk tm i = .sl sz [] .full) : Weak n0 tm H (setTM tm i (.sl sz [] (.row H.length))) (H ++ [.row 0 sz]) := by
  rintro σ a rfl I hf
  have htr := σ.ext0_tr (.row 0 sz) 0 0 ⟨0, sz, rfl⟩
  refine ⟨{ σ with g := σ.g.put σ.H.length 0 0 false, H := σ.H ++ [.row 0 sz] }, rfl, rfl, σ.ext0_inv I 0 sz 0 0, fun t => ?_, htr.all n0⟩
  rcases lk_setTM (tm := tm) (i := i) (v := .sl sz [] (.row σ.H.length)) t with e | ⟨rfl, e⟩ <;> rw [e]
  · exact RepV.mono htr.le _ _ (hf t)
  · have h1 := hf t
    rw [h] at h1
    obtain ⟨ad, cap, g1, g2, g3, g4⟩ := repV_sl.1 h1
    have g3 : cap = 0 := g3
    refine repV_sl.2 ⟨ad, cap, g1, g2, ⟨0, by simp, Nat.le_refl _, fun _ => ?_⟩, .inl rfl⟩
    show if (σ.g.put σ.H.length 0 0 false).live σ.H.length then _ else _
    rw [put_eq.2.2]
    exact g3

theorem Weak.of_eq {n0 : Nat} {tm tm' : TM} {H H' : HP} (h1 : tm = tm') (h2 : H = H') : Weak n0 tm H tm' H' := by subst h1; subst h2; exact Weak.refl _ _ _

theorem Weak.trans {n0 : Nat} {tm tm' tm'' : TM} {H H' H'' : HP} (h : Weak n0 tm H tm' H') (k : Weak n0 tm' H' tm'' H'') : Weak n0 tm H tm'' H'' := by
  intro σ a e I hf
  obtain ⟨σ1, a1, a2, a3, a4, a5⟩ := h σ a e I hf
  obtain ⟨σ2, b1, b2, b3, b4, b5⟩ := k σ1 a a2 a3 a4
  exact ⟨σ2, b1.trans a1, b2, b3, b4, a5.trans b5⟩

/-- A box whose kind holds what is in it: nothing is rewritten there. -/
inductive Box {α : Type} (a : α) : Type where
  | mk

/-- What is still to be done: code behind, or a block's end. -/
inductive Fr where
  | s (c : CC)
  | b (id : Nat)

/-- Where a way out leads. -/
def unwind (P : Program) (n0 : Nat) (Q : Ex → TM → HP → Prop) : List Fr → Ex → TM → HP → Prop
  | [], e => Q e
  | .s c :: K, .normal => AW P n0 c (unwind P n0 Q K)
  | .s _ :: K, e => unwind P n0 Q K e
  | .b i :: K, .exit j => if j = i then unwind P n0 Q K .normal else unwind P n0 Q K (.exit j)
  | .b _ :: K, e => unwind P n0 Q K e

section
variable (P : Program) (n0 : Nat)
/-- A way out; what is behind it is boxed. -/
def UW (e : Ex) {K : List Fr} (_ : Box K) {Q : Ex → TM → HP → Prop} (_ : Box Q) (tm : TM) (H : HP) : Prop := unwind P n0 Q K e tm H
/-- Code; what is behind it is boxed. -/
def AWS (c : CC) {K : List Fr} (_ : Box K) {Q : Ex → TM → HP → Prop} (_ : Box Q) (tm : TM) (H : HP) : Prop := AW P n0 c (unwind P n0 Q K) tm H
/-- A loop, its body and what is behind it boxed. -/
def LoopB {c : CC} (_ : Box c) (tm : TM) (H : HP) {K : List Fr} (_ : Box K) {Q : Ex → TM → HP → Prop} (_ : Box Q) : Prop := AW P n0 (.wk (.loop (.wk c))) (unwind P n0 Q K) tm H
end

section
variable {P : Program} {n0 : Nat} {Q : Ex → TM → HP → Prop} {K : List Fr} {tm : TM} {H : HP}
theorem AW_start {c : CC} : AW P n0 c Q tm H = AWS P n0 c (.mk : Box ([] : List Fr)) (.mk : Box Q) tm H := by
  have : unwind P n0 Q [] = Q := funext fun e => by cases e <;> rfl
  unfold AWS
  rw [this]
theorem AWS_skip : AWS P n0 .skip (.mk : Box K) (.mk : Box Q) tm H = UW P n0 .normal (.mk : Box K) (.mk : Box Q) tm H := propext Iff.rfl
theorem AWS_label : AWS P n0 .label (.mk : Box K) (.mk : Box Q) tm H = UW P n0 .normal (.mk : Box K) (.mk : Box Q) tm H := propext Iff.rfl
theorem AWS_exit {i : Nat} : AWS P n0 (.exit i) (.mk : Box K) (.mk : Box Q) tm H = UW P n0 (.exit i) (.mk : Box K) (.mk : Box Q) tm H := propext Iff.rfl
theorem AWS_goto {i : Nat} : AWS P n0 (.goto i) (.mk : Box K) (.mk : Box Q) tm H = UW P n0 (.goto i) (.mk : Box K) (.mk : Box Q) tm H := propext Iff.rfl
theorem AWS_ret : AWS P n0 .ret (.mk : Box K) (.mk : Box Q) tm H = UW P n0 .ret (.mk : Box K) (.mk : Box Q) tm H := propext Iff.rfl
theorem AWS_reg {d : Option Nat} {ops : List COper} {live : List Nat} : AWS P n0 (.reg d ops live) (.mk : Box K) (.mk : Box Q) tm H = RW P (d.getD 0) ops tm H fun tm' H' => UW P n0 .normal (.mk : Box K) (.mk : Box Q) (keepLive tm' live) H' := rfl
theorem AWS_reg_none {ops : List COper} {live : List Nat} : AWS P n0 (.reg none ops live) (.mk : Box K) (.mk : Box Q) tm H = RW P 0 ops tm H fun tm' H' => UW P n0 .normal (.mk : Box K) (.mk : Box Q) (keepLive tm' live) H' := propext Iff.rfl
theorem AWS_reg_some {n : Nat} {ops : List COper} {live : List Nat} : AWS P n0 (.reg (some n) ops live) (.mk : Box K) (.mk : Box Q) tm H = RW P n ops tm H fun tm' H' => UW P n0 .normal (.mk : Box K) (.mk : Box Q) (keepLive tm' live) H' := propext Iff.rfl
theorem AWS_regm {ms : List MOp} {live : List Nat} : AWS P n0 (.regm ms live) (.mk : Box K) (.mk : Box Q) tm H = RM P ms tm H [] [] fun tm' H' => UW P n0 .normal (.mk : Box K) (.mk : Box Q) (keepLive tm' live) H' := propext Iff.rfl
theorem AWS_seq {x y : CC} : AWS P n0 (.seq x y) (.mk : Box K) (.mk : Box Q) tm H = AWS P n0 x (.mk : Box (.s y :: K)) (.mk : Box Q) tm H := by
  have : (fun e => match e with | .normal => AW P n0 y (unwind P n0 Q K) | e => unwind P n0 Q K e) = unwind P n0 Q (.s y :: K) := funext fun e => by cases e <;> rfl
  show AW P n0 x (fun e => match e with | .normal => AW P n0 y (unwind P n0 Q K) | e => unwind P n0 Q K e) tm H = _
  rw [this]
  rfl
theorem AWS_block {i : Nat} {c : CC} : AWS P n0 (.block i c) (.mk : Box K) (.mk : Box Q) tm H = AWS P n0 c (.mk : Box (.b i :: K)) (.mk : Box Q) tm H := by
  have : (fun e => match e with | .exit j => if j = i then unwind P n0 Q K .normal else unwind P n0 Q K (.exit j) | e => unwind P n0 Q K e) = unwind P n0 Q (.b i :: K) := funext fun e => by cases e <;> rfl
  show AW P n0 c (fun e => match e with | .exit j => if j = i then unwind P n0 Q K .normal else unwind P n0 Q K (.exit j) | e => unwind P n0 Q K e) tm H = _
  rw [this]
  rfl
theorem AWS_cond {c : Opd} {x y : CC} : AWS P n0 (.cond c x y) (.mk : Box K) (.mk : Box Q) tm H = ∃ b, there (lk tm) [c] = true ∧ val (lk tm) c = .bool b ∧ (b = true → AWS P n0 x (.mk : Box K) (.mk : Box Q) tm H) ∧ (b = false → AWS P n0 y (.mk : Box K) (.mk : Box Q) tm H) := propext Iff.rfl
theorem AWS_wkloop {c : CC} : AWS P n0 (.wk (.loop (.wk c))) (.mk : Box K) (.mk : Box Q) tm H = LoopB P n0 (.mk : Box c) tm H (.mk : Box K) (.mk : Box Q) := propext Iff.rfl
theorem UW_nil {e : Ex} : UW P n0 e (.mk : Box ([] : List Fr)) (.mk : Box Q) tm H = Q e tm H := by cases e <;> exact propext Iff.rfl
theorem UW_s {c : CC} : UW P n0 .normal (.mk : Box (Fr.s c :: K)) (.mk : Box Q) tm H = AWS P n0 c (.mk : Box K) (.mk : Box Q) tm H := propext Iff.rfl
theorem UW_s_exit {c : CC} {j : Nat} : UW P n0 (.exit j) (.mk : Box (Fr.s c :: K)) (.mk : Box Q) tm H = UW P n0 (.exit j) (.mk : Box K) (.mk : Box Q) tm H := propext Iff.rfl
theorem UW_s_goto {c : CC} {j : Nat} : UW P n0 (.goto j) (.mk : Box (Fr.s c :: K)) (.mk : Box Q) tm H = UW P n0 (.goto j) (.mk : Box K) (.mk : Box Q) tm H := propext Iff.rfl
theorem UW_s_ret {c : CC} : UW P n0 .ret (.mk : Box (Fr.s c :: K)) (.mk : Box Q) tm H = UW P n0 .ret (.mk : Box K) (.mk : Box Q) tm H := propext Iff.rfl
theorem UW_b {i : Nat} : UW P n0 .normal (.mk : Box (Fr.b i :: K)) (.mk : Box Q) tm H = UW P n0 .normal (.mk : Box K) (.mk : Box Q) tm H := propext Iff.rfl
theorem UW_b_exit {i j : Nat} : UW P n0 (.exit j) (.mk : Box (Fr.b i :: K)) (.mk : Box Q) tm H = if j = i then UW P n0 .normal (.mk : Box K) (.mk : Box Q) tm H else UW P n0 (.exit j) (.mk : Box K) (.mk : Box Q) tm H := by
  unfold UW
  show (if j = i then unwind P n0 Q K .normal else unwind P n0 Q K (.exit j)) tm H = _
  split <;> rfl
theorem UW_b_goto {i j : Nat} : UW P n0 (.goto j) (.mk : Box (Fr.b i :: K)) (.mk : Box Q) tm H = UW P n0 (.goto j) (.mk : Box K) (.mk : Box Q) tm H := propext Iff.rfl
theorem UW_b_ret {i : Nat} : UW P n0 .ret (.mk : Box (Fr.b i :: K)) (.mk : Box Q) tm H = UW P n0 .ret (.mk : Box K) (.mk : Box Q) tm H := propext Iff.rfl
end

/-- A loop before which something may be forgotten. -/
theorem AW_wloop {P : Program} {n0 : Nat} {Q : Ex → TM → HP → Prop} {K : List Fr} {tm : TM} {H : HP} {c : CC} {S : Type} (tmf : S → TM) (hf : S → HP) (I : S → Prop) (μ : S → Nat) (s0 : S) (h0 : I s0) (hw : Weak n0 tm H (tmf s0) (hf s0))
    (step : ∀ s, I s → AW P n0 c (fun e => match e with | .normal => fun tm' H' => ∃ s', I s' ∧ μ s' < μ s ∧ tm' = tmf s' ∧ H' = hf s' | e => fun tm' H' => UW P n0 e (.mk : Box K) (.mk : Box Q) tm' H') (tmf s) (hf s)) : LoopB P n0 (.mk : Box c) tm H (.mk : Box K) (.mk : Box Q) :=
  ⟨_, _, hw, AW_loop tmf hf I μ s0 h0 rfl rfl fun s hs => ⟨_, _, Weak.refl _ _ _, step s hs⟩⟩

/-- A loop before which, and at each round's end, something may be forgotten. -/
theorem AW_wloopW {P : Program} {n0 : Nat} {Q : Ex → TM → HP → Prop} {K : List Fr} {tm : TM} {H : HP} {c : CC} {S : Type} (tmf : S → TM) (hf : S → HP) (I : S → Prop) (μ : S → Nat) (s0 : S) (h0 : I s0) (hw : Weak n0 tm H (tmf s0) (hf s0))
    (step : ∀ s, I s → AW P n0 c (fun e => match e with | .normal => fun tm' H' => ∃ s', I s' ∧ μ s' < μ s ∧ Weak n0 tm' H' (tmf s') (hf s') | e => fun tm' H' => UW P n0 e (.mk : Box K) (.mk : Box Q) tm' H') (tmf s) (hf s)) : LoopB P n0 (.mk : Box c) tm H (.mk : Box K) (.mk : Box Q) := by
  refine ⟨_, _, hw, fun n tm H => ∃ s, I s ∧ μ s = n ∧ Weak n0 tm H (tmf s) (hf s), ⟨_, s0, h0, rfl, Weak.refl _ _ _⟩, ?_⟩
  rintro n tm' H' ⟨s, hs, rfl, hw'⟩
  refine ⟨_, _, hw', ?_⟩
  have := step s hs
  refine Eq.mp ?_ this
  congr 1
  funext e
  cases e <;> first | rfl | skip
  funext tm' H'
  apply propext
  exact ⟨fun ⟨s', a, b, c⟩ => ⟨_, b, s', a, rfl, c⟩, fun ⟨m, hm, s', a, b, c⟩ => ⟨s', a, by omega, c⟩⟩

/-- A slice of which no room is known any more. -/
def viewTM : TM → Nat → TM
  | [], _ => []
  | (j, u) :: r, i => if j = i then (j, u.vw) :: r else (j, u) :: viewTM r i

theorem lk_viewTM {tm : TM} {i : Nat} (t : Nat) : lk (viewTM tm i) t = lk tm t ∨ lk (viewTM tm i) t = (lk tm t).vw := by
  induction tm with
  | nil => exact .inl rfl
  | cons x r ih =>
    obtain ⟨j, u⟩ := x
    simp only [viewTM]
    split
    · simp only [lk]
      split
      · exact .inr rfl
      · exact .inl rfl
    · simp only [lk]
      split
      · exact .inl rfl
      · exact ih

theorem Weak.view {n0 : Nat} {tm : TM} {H : HP} (i : Nat) : Weak n0 tm H (viewTM tm i) H := by
  rintro σ a rfl I hf
  refine ⟨σ, rfl, rfl, I, fun t => ?_, Tr.refl _ _⟩
  rcases lk_viewTM (tm := tm) (i := i) t with e | e <;> rw [e]
  · exact hf t
  · exact (hf t).vw

theorem TCp.body {P : Program} {f : FuncId} {cc : CC} {rd : List RD} {k : Nat} (hk : chkFn P f cc rd k = true) (hP : P.follows .mixedOrders = true) {args : List V} {r : V} (hn : args.length = k) (ha : V.underL 0 args = true) (hr : r.under 0 = true)
    (h : AW P 0 cc (RetP rd r) (enter args 0) []) : TCp P f args r := TCp.of_body hP (hn ▸ hk) ha hr h

theorem TCp.bodyV {P : Program} {f : FuncId} {cc : CC} {rd : List RD} {k : Nat} (hk : chkFn P f cc rd k = true) (hP : P.follows .mixedOrders = true) {args : List V} {r : V} (hn : args.length = k) (ha : V.underL 0 args = true) (hr : r.under 0 = true)
    (h : AW P 0 cc (RetV rd r) (enter args 0) []) : TCp P f args r := TCp.of_bodyV hP (hn ▸ hk) ha hr h
theorem TC.body {P : Program} {f : FuncId} {cc : CC} {rd : List RD} {k : Nat} (hk : chkFn P f cc rd k = true) (hP : P.follows .mixedOrders = true) {args : List V} {H : HP} {Q : V → HP → Prop} (hn : args.length = k)
    (h : AW P H.length cc (RetG rd H.length Q) (enter args 0) H) : TC P f args H Q := TC.of_body hP (hn ▸ hk) h
theorem TC.bodyK {P : Program} {f : FuncId} {cc : CC} {rd : List RD} {k : Nat} (hk : chkFn P f cc rd k = true) (hP : P.follows .mixedOrders = true) {args : List V} {H : HP} {Q : V → HP → Prop} (hn : args.length = k)
    (h : AW P H.length cc (RetK rd Q) (enter args 0) H) : TC P f args H Q := TC.of_body_keep hP (hn ▸ hk) h

/-- A call, what follows it boxed. -/
def CallB (P : Program) (f : FuncId) (args : List V) (H : HP) {K : V → HP → Prop} (_ : Box K) : Prop := CallW P f args H K
theorem CallB.p {P : Program} {f : FuncId} {args : List V} {H : HP} {K : V → HP → Prop} {b : Box K} {r : V} (h : TCp P f args r) (hk : K r H) : CallB P f args H b := CallW.of_pure h hk
theorem CallB.w {P : Program} {f : FuncId} {args : List V} {H : HP} {K : V → HP → Prop} {b : Box K} {Q : V → HP → Prop} (h : TC P f args H Q) (hk : ∀ r H', Q r H' → K r H') : CallB P f args H b := CallW.of h hk

/-- A quiet call. -/
def CallQ (P : Program) (f : FuncId) (args : List V) {K : V → Prop} (_ : Box K) : Prop := ∃ v, TCp P f args v ∧ K v
/-- A quiet call under a guard. -/
def CallG (P : Program) (g : Bool) (th : Bool) (f : FuncId) (args : List V) {K : V → Prop} (_ : Box K) : Prop := ∃ r, (g = true → th = true ∧ TCp P f args r) ∧ K (.opt g r)

theorem CallQ.of {P : Program} {f : FuncId} {args : List V} {K : V → Prop} {b : Box K} {r : V} (h : TCp P f args r) (hk : K r) : CallQ P f args b := ⟨r, h, hk⟩

theorem CallG.of {P : Program} {g th : Bool} {f : FuncId} {args : List V} {K : V → Prop} {b : Box K} {r : V} (h : g = true → th = true ∧ TCp P f args r) (hk : K (.opt g r)) : CallG P g th f args b := ⟨r, h, hk⟩

/-- A quiet operation, and what follows. -/
def OPK (P : Program) (o : COper) (ρ : Nat → V) (H : HP) (K : V → Prop) : Prop :=
  match o.grd with
  | none => match target ρ o.op with
    | some (f, args) => there ρ o.op.opds = true ∧ CallQ P f args (.mk : Box K)
    | none => match pure1 o.op ρ H with
      | some (c, u) => c ∧ K u
      | none => False
  | some (t, b) => match guardOf (ρ t) b with
    | none => False
    | some g => match target ρ o.op with
      | some (f, args) => CallG P g (there ρ o.op.opds) f args (.mk : Box K)
      | none => match pure1 o.op ρ H with
        | some (c, u) => (g = true → c) ∧ K (.opt g u)
        | none => False

theorem OPW_simp {P : Program} {o : COper} {ρ : Nat → V} {H : HP} {K : V → HP → Prop} : OPW P o ρ H K = match o.grd with
    | none => (match target ρ o.op with
      | some (f, args) => there ρ o.op.opds = true ∧ CallB P f args H (.mk : Box K)
      | none => match pure1 o.op ρ H with
        | some (c, v) => c ∧ K v H
        | none => there ρ o.op.opds = true ∧ eve o.op (val ρ) H K)
    | some (t, b) => match guardOf (ρ t) b with
      | none => False
      | some g => match target ρ o.op with
        | some (f, args) => CallG P g (there ρ o.op.opds) f args (.mk : Box fun v => K v H)
        | none => match pure1 o.op ρ H with
          | some (c, v) => (g = true → c) ∧ K (.opt g v) H
          | none => False := by
  unfold OPW CallG CallB
  rfl

theorem OPK_iff {P : Program} {o : COper} {ρ : Nat → V} {H : HP} {K : V → Prop} : (∃ v, OPQ P o ρ H v ∧ K v) ↔ OPK P o ρ H K := by
  unfold OPQ OPK CallQ CallG
  obtain ⟨d, op, g⟩ := o
  dsimp only
  cases g with
  | none =>
    dsimp only
    cases target ρ op with
    | some q => exact ⟨fun ⟨v, ⟨h1, h2⟩, h3⟩ => ⟨h1, v, h2, h3⟩, fun ⟨h1, v, h2, h3⟩ => ⟨v, ⟨h1, h2⟩, h3⟩⟩
    | none =>
      dsimp only
      cases pure1 op ρ H with
      | some q => exact ⟨fun ⟨v, ⟨h1, h2⟩, h3⟩ => ⟨h1, h2 ▸ h3⟩, fun ⟨h1, h3⟩ => ⟨_, ⟨h1, rfl⟩, h3⟩⟩
      | none => exact ⟨fun ⟨_, h, _⟩ => h, fun h => h.elim⟩
  | some tb =>
    obtain ⟨t, b⟩ := tb
    dsimp only
    cases guardOf (ρ t) b with
    | none => exact ⟨fun ⟨_, h, _⟩ => h, fun h => h.elim⟩
    | some g =>
      dsimp only
      cases target ρ op with
      | some q => exact ⟨fun ⟨v, ⟨r, h1, h2⟩, h3⟩ => ⟨r, h1, h2 ▸ h3⟩, fun ⟨r, h1, h3⟩ => ⟨_, ⟨r, h1, rfl⟩, h3⟩⟩
      | none =>
        dsimp only
        cases pure1 op ρ H with
        | some q => exact ⟨fun ⟨v, ⟨h1, h2⟩, h3⟩ => ⟨h1, h2 ▸ h3⟩, fun ⟨h1, h3⟩ => ⟨_, ⟨h1, rfl⟩, h3⟩⟩
        | none => exact ⟨fun ⟨_, h, _⟩ => h, fun h => h.elim⟩

section
variable {P : Program} {K : TM → HP → Prop} {tm : TM} {H : HP}
theorem RW_nil {n : Nat} : RW P n [] tm H K = K tm H := by cases n <;> exact propext Iff.rfl
theorem RW_zero {o : COper} {os : List COper} : RW P 0 (o :: os) tm H K = OPW P o (lk tm) H fun v H' => RW P 0 os (put o.dst v tm) H' K := propext Iff.rfl
theorem RW_succ {n : Nat} {o : COper} {os : List COper} : RW P (n + 1) (o :: os) tm H K = OPK P o (lk tm) H fun v => RW P n os (put o.dst v tm) H K := propext OPK_iff

theorem RW_congr {n : Nat} {os : List COper} {tm' : TM} {H' : HP} (h1 : tm = tm') (h2 : H = H') : RW P n os tm H K = RW P n os tm' H' K := by rw [h1, h2]
theorem AW_congr {n0 : Nat} {c : CC} {Q : Ex → TM → HP → Prop} {tm' : TM} {H' : HP} (h1 : tm = tm') (h2 : H = H') : AW P n0 c Q tm H = AW P n0 c Q tm' H' := by rw [h1, h2]
theorem OPW_congr {o : COper} {ρ : Nat → V} {K : V → HP → Prop} : OPW P o ρ H K = OPW P o ρ H K := rfl
theorem OPK_congr {o : COper} {ρ : Nat → V} {K : V → Prop} : OPK P o ρ H K = OPK P o ρ H K := rfl
theorem eve_congr {o : COp} {r : Opd → V} {K : V → HP → Prop} : eve o r H K = eve o r H K := rfl
end

section
variable {P : Program} {K : TM → HP → Prop} {tm : TM} {H : HP} {hs : List HP} {ps : List (Nat × COper × TM × V)}
theorem RM_nil : RM P [] tm H hs ps K = K tm H := propext Iff.rfl
theorem RM_quiet {lo hi : Nat} {c : COper} {ms : List MOp} : RM P (⟨false, lo, hi, c⟩ :: ms) tm H hs ps K = OPK P c (lk tm) H fun v => histOk P lo c tm v hs ∧ RM P ms (put c.dst v tm) H hs ((hi, c, tm, v) :: ps) K := propext OPK_iff
theorem RM_eff {lo hi : Nat} {c : COper} {ms : List MOp} : RM P (⟨true, lo, hi, c⟩ :: ms) tm H hs ps K = (c.op.det = true ∧ c.grd = none ∧ target (lk tm) c.op = none ∧ pure1 c.op (lk tm) H = none ∧ OPW P c (lk tm) H fun v H' => pendOk P (hs.length + 1) H' ps ∧ RM P ms (put c.dst v tm) H' (H :: hs) ps K) := propext Iff.rfl
theorem RM_congr {ms : List MOp} {tm' : TM} {H' : HP} (h1 : tm = tm') (h2 : H = H') : RM P ms tm H hs ps K = RM P ms tm' H' hs ps K := by rw [h1, h2]
end

/-- Operations in short: with a place for what they tell; without; under a guard. -/
@[simp] def o (d : Nat) (c : COp) : COper := ⟨some d, c, none⟩
@[simp] def e (c : COp) : COper := ⟨none, c, none⟩
@[simp] def g (d : Nat) (c : COp) (t : Nat) (b : Bool) : COper := ⟨some d, c, some (t, b)⟩

@[simp] def q (lo hi : Nat) (c : COper) : MOp := ⟨false, lo, hi, c⟩
@[simp] def f (c : COper) : MOp := ⟨true, 0, 0, c⟩

section
variable {P : Program} {ρ : Nat → V} {H : HP} {d f t : Nat} {b : Bool} {args : List Opd}
theorem OPW_call {K : V → HP → Prop} : OPW P (o d (.call f args)) ρ H K = (there ρ args = true ∧ CallB P f (args1 ρ args) H (.mk : Box K)) := propext Iff.rfl
theorem OPK_call {K : V → Prop} : OPK P (o d (.call f args)) ρ H K = (there ρ args = true ∧ CallQ P f (args1 ρ args) (.mk : Box K)) := propext Iff.rfl
theorem OPK_gcall {K : V → Prop} : OPK P (g d (.call f args) t b) ρ H K = (match guardOf (ρ t) b with | none => False | some q => CallG P q (there ρ args) f (args1 ρ args) (.mk : Box K)) := propext Iff.rfl
theorem OPW_gcall {K : V → HP → Prop} : OPW P (g d (.call f args) t b) ρ H K = (match guardOf (ρ t) b with | none => False | some q => CallG P q (there ρ args) f (args1 ρ args) (.mk : Box fun v => K v H)) := by
  rw [OPW_simp]; rfl
end

section
variable {P : Program} {K : TM → HP → Prop} {tm : TM} {H : HP} {hs : List HP} {ps : List (Nat × COper × TM × V)}
theorem RM_q {lo hi : Nat} {c : COper} {ms : List MOp} : RM P (q lo hi c :: ms) tm H hs ps K = OPK P c (lk tm) H fun v => histOk P lo c tm v hs ∧ RM P ms (put c.dst v tm) H hs ((hi, c, tm, v) :: ps) K := RM_quiet
theorem RM_f {c : COper} {ms : List MOp} : RM P (f c :: ms) tm H hs ps K = (c.op.det = true ∧ c.grd = none ∧ target (lk tm) c.op = none ∧ pure1 c.op (lk tm) H = none ∧ OPW P c (lk tm) H fun v H' => pendOk P (hs.length + 1) H' ps ∧ RM P ms (put c.dst v tm) H' (H :: hs) ps K) := propext Iff.rfl
end

attribute [congr] RM_congr RW_congr OPW_congr OPK_congr eve_congr
theorem AW_regm {P : Program} {n0 : Nat} {Q : Ex → TM → HP → Prop} {tm : TM} {H : HP} {ms : List MOp} {live : List Nat} : AW P n0 (.regm ms live) Q tm H = RM P ms tm H [] [] fun tm' H' => Q .normal (keepLive tm' live) H' := rfl

theorem fz_app {d : Nat → Bool} {H : HP} {n : Nat} {v : V} : fz d H (n + 1) v = fzW d H (some (fz d H n)) v := rfl

attribute [simp ↓] AW_start AWS_skip AWS_label AWS_exit AWS_goto AWS_ret AWS_reg_none AWS_reg_some AWS_regm AWS_seq AWS_block AWS_cond AWS_wkloop RM_nil RM_q RM_f RM_quiet RM_eff RW_nil RW_zero RW_succ OPW_call OPK_call OPK_gcall OPW_gcall OPW_simp
attribute [simp] UW_nil UW_s UW_s_exit UW_s_goto UW_s_ret UW_b UW_b_exit UW_b_goto UW_b_ret
attribute [simp] RetV RetK RetG underH V.under V.underL COp.det histOk pendOk OPQ OPK target pure1 evp there val opv lk put binV COp.opds keepLive enter args1 V.vw V.vwL RetP retOf retL guardOf pickP sel eve V.at V.setAt fz_app fzW fzL V.shape V.shapeL Sh.size Sh.sizeL bnd pieceTok setParts partsFit elems slSize moreOf moreSize mapOf
theorem un_junk  : V.un (.junk) = (true, (.junk)) := rfl
theorem plain_junk  : V.plain (.junk) = false := rfl
theorem isAgg_junk  : isAggV (.junk) = false := rfl
theorem un_int (k : IntKind) (n : Int) : V.un (.int k n) = (true, (.int k n)) := rfl
theorem plain_int (k : IntKind) (n : Int) : V.plain (.int k n) = true := rfl
theorem isAgg_int (k : IntKind) (n : Int) : isAggV (.int k n) = false := rfl
theorem un_bool (b : Bool) : V.un (.bool b) = (true, (.bool b)) := rfl
theorem plain_bool (b : Bool) : V.plain (.bool b) = true := rfl
theorem isAgg_bool (b : Bool) : isAggV (.bool b) = false := rfl
theorem un_str (s : List UInt8) : V.un (.str s) = (true, (.str s)) := rfl
theorem plain_str (s : List UInt8) : V.plain (.str s) = true := rfl
theorem isAgg_str (s : List UInt8) : isAggV (.str s) = false := rfl
theorem un_agg (xs : List V) : V.un (.agg xs) = (true, (.agg xs)) := rfl
theorem plain_agg (xs : List V) : V.plain (.agg xs) = true := rfl
theorem isAgg_agg (xs : List V) : isAggV (.agg xs) = true := rfl
theorem un_sl (sz : Nat) (xs : List V) (tk : Tok) : V.un (.sl sz xs tk) = (true, (.sl sz xs tk)) := rfl
theorem plain_sl (sz : Nat) (xs : List V) (tk : Tok) : V.plain (.sl sz xs tk) = true := rfl
theorem isAgg_sl (sz : Nat) (xs : List V) (tk : Tok) : isAggV (.sl sz xs tk) = false := rfl
theorem un_arr (t : Nat) (p : List Nat) (off : Nat) (len : Nat) (sz : Nat) : V.un (.arr t p off len sz) = (true, (.arr t p off len sz)) := rfl
theorem plain_arr (t : Nat) (p : List Nat) (off : Nat) (len : Nat) (sz : Nat) : V.plain (.arr t p off len sz) = true := rfl
theorem isAgg_arr (t : Nat) (p : List Nat) (off : Nat) (len : Nat) (sz : Nat) : isAggV (.arr t p off len sz) = false := rfl
theorem un_ptr (t : Nat) (p : List Nat) : V.un (.ptr t p) = (true, (.ptr t p)) := rfl
theorem plain_ptr (t : Nat) (p : List Nat) : V.plain (.ptr t p) = true := rfl
theorem isAgg_ptr (t : Nat) (p : List Nat) : isAggV (.ptr t p) = false := rfl
theorem un_nilp  : V.un (.nilp) = (true, (.nilp)) := rfl
theorem plain_nilp  : V.plain (.nilp) = true := rfl
theorem isAgg_nilp  : isAggV (.nilp) = false := rfl
theorem un_box (x : V) : V.un (.box x) = (true, (.box x)) := rfl
theorem plain_box (x : V) : V.plain (.box x) = true := rfl
theorem isAgg_box (x : V) : isAggV (.box x) = false := rfl
theorem un_map (t : Nat) : V.un (.map t) = (true, (.map t)) := rfl
theorem plain_map (t : Nat) : V.plain (.map t) = true := rfl
theorem isAgg_map (t : Nat) : isAggV (.map t) = false := rfl
theorem un_nilmap  : V.un (.nilmap) = (true, (.nilmap)) := rfl
theorem plain_nilmap  : V.plain (.nilmap) = true := rfl
theorem isAgg_nilmap  : isAggV (.nilmap) = false := rfl
theorem un_mapv (ks : List V) (vs : List V) : V.un (.mapv ks vs) = (true, (.mapv ks vs)) := rfl
theorem plain_mapv (ks : List V) (vs : List V) : V.plain (.mapv ks vs) = true := rfl
theorem isAgg_mapv (ks : List V) (vs : List V) : isAggV (.mapv ks vs) = false := rfl
theorem un_fn (f : Nat) (a : List V) (b : List V) : V.un (.fn f a b) = (true, (.fn f a b)) := rfl
theorem plain_fn (f : Nat) (a : List V) (b : List V) : V.plain (.fn f a b) = true := rfl
theorem isAgg_fn (f : Nat) (a : List V) (b : List V) : isAggV (.fn f a b) = false := rfl
theorem un_nilfn  : V.un (.nilfn) = (true, (.nilfn)) := rfl
theorem plain_nilfn  : V.plain (.nilfn) = true := rfl
theorem isAgg_nilfn  : isAggV (.nilfn) = false := rfl
theorem un_tup (vs : List V) : V.un (.tup vs) = (true, (.tup vs)) := rfl
theorem plain_tup (vs : List V) : V.plain (.tup vs) = false := rfl
theorem isAgg_tup (vs : List V) : isAggV (.tup vs) = false := rfl
theorem un_opt (g : Bool) (v : V) : V.un (.opt g v) = (g, v) := rfl
theorem plain_opt (g : Bool) (v : V) : V.plain (.opt g v) = false := rfl
theorem isAgg_opt (g : Bool) (v : V) : isAggV (.opt g v) = false := rfl
attribute [simp] un_junk plain_junk isAgg_junk un_int plain_int isAgg_int un_bool plain_bool isAgg_bool un_str plain_str isAgg_str un_agg plain_agg isAgg_agg un_sl plain_sl isAgg_sl un_arr plain_arr isAgg_arr un_ptr plain_ptr isAgg_ptr un_nilp plain_nilp isAgg_nilp un_box plain_box isAgg_box un_map plain_map isAgg_map un_nilmap plain_nilmap isAgg_nilmap un_mapv plain_mapv isAgg_mapv un_fn plain_fn isAgg_fn un_nilfn plain_nilfn isAgg_nilfn un_tup plain_tup isAgg_tup un_opt plain_opt isAgg_opt
end Go.Abs
end

section
namespace Go.Abs
open Go

def V.vwt : V → V
  | .tup vs => .tup (V.vwL vs)
  | v => v.vw

theorem RepVs.vw {σ : St} : ∀ (xs : List V) (cs : List Value), RepVs σ xs cs → RepVs σ (V.vwL xs) cs
  | [], _, h => h
  | x :: xs, _, ⟨c, d, l, h1, h2, h3, h4⟩ => ⟨c, d, l, h1, RepC.vw x l h2, (by cases x <;> exact h3), RepVs.vw xs d h4⟩

theorem RepV.vwt {σ : St} {v : V} {c : Value} (h : RepV σ v c) : RepV σ v.vwt c := by
  cases v with
  | tup vs =>
    obtain ⟨cs, h1, h2⟩ := repV_tup.1 h
    exact repV_tup.2 ⟨cs, h1, RepVs.vw _ _ h2⟩
  | _ => exact h.vw

/-- As without effects; of the results' rooms nothing is told. -/
def RetT (rd : List RD) (r : V) (e : Ex) (tm : TM) (H : HP) : Prop :=
  (e = .normal ∨ e = .ret) ∧ match retOf tm H rd with
    | some (c, v) => c ∧ (fz (fun _ => true) H 8 v).vwt = r ∧ (fz (fun _ => true) H 8 v).under 0 = true
    | none => False

theorem TC.vwt {P : Program} {f : FuncId} {args : List V} {H : HP} {Q : V → HP → Prop} (h : TC P f args H fun v H' => Q v.vwt H') : TC P f args H Q :=
  fun σ cargs h1 h2 h3 => (h σ cargs h1 h2 h3).mono fun _ _ ⟨r, σ', a2, a3, a4, a5, a6⟩ => ⟨r.vwt, σ', a2, a3, a4.vwt, a5, a6⟩

theorem TCp.bodyT {P : Program} {f : FuncId} {cc : CC} {rd : List RD} {k : Nat} (hk : chkFn P f cc rd k = true) (hP : P.follows .mixedOrders = true) {args : List V} {r : V} (hn : args.length = k) (ha : V.underL 0 args = true) (hr : r.under 0 = true)
    (h : AW P 0 cc (RetT rd r) (enter args 0) []) : TCp P f args r := by
  refine TCp.of_nil (TC.vwt (TC.of_body hP (hn ▸ hk) (H := []) ?_)) ha hr
  have hd : (fun t => decide (([] : HP).length ≤ t)) = fun _ => true := funext fun t => by simp
  have : RetG rd ([] : HP).length (fun v _ => v.vwt = r) = RetT rd r := by
    funext e tm H
    apply propext
    unfold RetG RetT
    rw [hd]
    cases retOf tm H rd with
    | none => exact Iff.rfl
    | some q => exact ⟨fun ⟨h1, h2, h4, _, _, h3⟩ => ⟨h1, h2, h3, h4⟩, fun ⟨h1, h2, h3, h4⟩ => ⟨h1, h2, h4, rfl, Nat.zero_le _, h3⟩⟩
  rw [this]
  exact h
attribute [simp] RetT V.vwt
end Go.Abs
end

section
namespace Go.Abs
open Go
open Go.RowKit (Below)

mutual
/-- A value without references. -/
def V.bare : V → Bool
  | .int .. | .bool _ | .str _ | .nilp | .nilmap | .nilfn => true
  | .agg xs | .tup xs => V.bareL xs
  | _ => false
def V.bareL : List V → Bool
  | [] => true
  | x :: xs => x.bare && V.bareL xs
end

mutual
theorem RepC.bare {σ τ : St} : ∀ (v : V) (cs : List Value), v.bare = true → RepC σ v cs → RepC τ v cs
  | .int .., _, _, h | .bool _, _, _, h | .str _, _, _, h | .nilp, _, _, h | .nilmap, _, _, h | .nilfn, _, _, h => h
  | .agg xs, cs, hf, h => RepL.bare xs cs (by simpa only [V.bare] using hf) h
  | .tup _, _, _, h => by simp [RepC] at h
  | .junk, _, hf, _ | .sl .., _, hf, _ | .arr .., _, hf, _ | .ptr .., _, hf, _ | .box _, _, hf, _ | .map _, _, hf, _ | .mapv .., _, hf, _ | .fn .., _, hf, _ | .opt .., _, hf, _ => by simp [V.bare] at hf
theorem RepL.bare {σ τ : St} : ∀ (xs : List V) (cs : List Value), V.bareL xs = true → RepL σ xs cs → RepL τ xs cs
  | [], _, _, h => h
  | x :: xs, _, hf, ⟨c, d, h1, h2, h3⟩ => by
    simp only [V.bareL, Bool.and_eq_true] at hf
    exact ⟨c, d, h1, RepC.bare x c hf.1 h2, RepL.bare xs d hf.2 h3⟩
end

theorem RepVs.bare {σ τ : St} : ∀ (xs : List V) (cs : List Value), V.bareL xs = true → RepVs σ xs cs → RepVs τ xs cs
  | [], _, _, h => h
  | x :: xs, _, hf, ⟨c, d, l, h1, h2, h3, h4⟩ => by
    simp only [V.bareL, Bool.and_eq_true] at hf
    exact ⟨c, d, l, h1, RepC.bare x l hf.1 h2, h3, RepVs.bare xs d hf.2 h4⟩

theorem RepV.bare {σ τ : St} : ∀ (v : V) (c : Value), v.bare = true → RepV σ v c → RepV τ v c
  | .int .., _, _, h | .bool _, _, _, h | .str _, _, _, h | .nilp, _, _, h | .nilmap, _, _, h | .nilfn, _, _, h => h
  | .agg xs, c, hf, ⟨l, h1, h2⟩ => ⟨l, RepC.bare (.agg xs) l hf h1, h2⟩
  | .tup vs, c, hf, ⟨cs, h1, h2⟩ => ⟨cs, h1, RepVs.bare vs _ (by simpa only [V.bare] using hf) h2⟩
  | .junk, _, hf, _ | .sl .., _, hf, _ | .arr .., _, hf, _ | .ptr .., _, hf, _ | .box _, _, hf, _ | .map _, _, hf, _ | .mapv .., _, hf, _ | .fn .., _, hf, _ | .opt .., _, hf, _ => by simp [V.bare] at hf

theorem RepAll.bare {σ τ : St} : ∀ (xs : List V) (cs : List Value), V.bareL xs = true → RepAll σ xs cs → RepAll τ xs cs
  | [], _, _, h => h
  | x :: xs, _, hf, ⟨c, d, h1, h2, h3⟩ => by
    simp only [V.bareL, Bool.and_eq_true] at hf
    exact ⟨c, d, h1, RepV.bare x c hf.1 h2, RepAll.bare xs d hf.2 h3⟩

theorem RepAll.fz {σ : St} {d : Nat → Bool} (I : Inv σ) (m n : Nat) : ∀ (xs : List V) (cs : List Value), RepAll σ xs cs → RepAll (σ.fz d m) (xs.map (Abs.fz d σ.H n)) cs
  | [], _, h => h
  | x :: xs, _, ⟨c, e, h1, h2, h3⟩ => ⟨c, e, h1, fz_repV I m n x c h2, RepAll.fz I m n xs e h3⟩

/-- The same world but for what is new: nothing that was there has turned. -/
theorem still_state {σ : St} {w' : World} (I : Inv σ) (hb : Below σ.w.heap.size σ.w w') (hc : ∀ b o v, σ.S b o → σ.w.cell? ⟨b, o, none⟩ = some v → w'.cell? ⟨b, o, none⟩ = some v)
    (hm : ∀ b es c, σ.S b 0 → σ.w.heap[b]? = some (.map es c) → w'.heap[b]? = some (.map es c)) : Inv { σ with w := w' } ∧ Tr σ.H.length σ { σ with w := w' } := by
  have htr : Tr σ.H.length σ { σ with w := w' } :=
    ⟨hb.os, hb.tape, hb.output, hb.size, fun b h _ => hb.block b h, fun _ _ h => h, hc, hm, fun _ _ _ _ h => h, fun t h => .inl ⟨t, h, rfl⟩,
      fun t v _ hv => ⟨v, hv, rfl, rfl⟩, fun t ks vs _ hv => ⟨ks, vs, hv, rfl⟩, fun t m sz _ hv => ⟨m, hv, .inr ⟨rfl, rfl, rfl, rfl⟩⟩⟩
  refine ⟨⟨fun b o h => Nat.lt_of_lt_of_le (I.bound b o h) hb.size, fun t x hx => ?_, I.inj⟩, htr⟩
  refine BlkOk.keep htr.le ⟨rfl, rfl, rfl⟩ (fun ob ho => ?_) (fun y hy o => Iff.rfl) (I.blk t x hx)
  show w'.heap[_]? = _
  rw [hb.block _ (Array.getElem?_eq_some_iff.1 ho).1]; exact ho

theorem below_cell {w w' : World} {b o : Nat} {v : Value} (hb : Below w.heap.size w w') (h : w.cell? ⟨b, o, none⟩ = some v) : w'.cell? ⟨b, o, none⟩ = some v := by
  have hlt : b < w.heap.size := by
    rcases Nat.lt_or_ge b w.heap.size with h' | h'
    · exact h'
    · unfold World.cell? at h
      simp [Array.getElem?_eq_none h'] at h
  unfold World.cell? at h ⊢
  rw [hb.block b hlt]
  exact h

theorem below_state {σ : St} {w' : World} (I : Inv σ) (hb : Below σ.w.heap.size σ.w w') : Inv { σ with w := w' } ∧ Tr σ.H.length σ { σ with w := w' } :=
  still_state I hb (fun _ _ _ _ h => below_cell hb h) (fun b es c _ h => by rw [hb.block b (Array.getElem?_eq_some_iff.1 h).1]; exact h)

/-- A call that reads what is in memory, by its contract on values. -/
theorem TCp.read {P : Program} {f : FuncId} {args args' : List V} {r : V} (h : TCp P f args' r) (hr : r.bare = true) {H : HP} (ha : args.map (Abs.fz (fun _ => true) H 8) = args') :
    TC P f args H fun r' H' => r' = r ∧ H' = H := by
  rintro σ cargs rfl I hargs
  subst ha
  have I1 := σ.fz_inv (d := fun _ => true) I 8
  have hno : ∀ t, ¬ Res (σ.fz (fun _ => true) 8) t := fun t ht => by have := (fz_res ht).2; cases this
  refine (h _ (σ.fz (fun _ => true) 8) cargs rfl I1 (RepAll.fz I 8 8 _ _ hargs)).mono ?_
  rintro c w' ⟨r', σ', rfl, I', hr', htr, rfl, hH⟩
  have hb : Below σ.w.heap.size σ.w σ'.w := ⟨htr.os, htr.tape, htr.output, htr.size, fun k hk => htr.keep k hk fun t ht => (hno t ht).elim⟩
  obtain ⟨q1, q2⟩ := below_state I hb
  exact ⟨r', { σ with w := σ'.w }, rfl, q1, RepV.bare _ _ hr hr', q2, rfl, rfl⟩

theorem CallB.r {P : Program} {f : FuncId} {args args' : List V} {H : HP} {K : V → HP → Prop} {b : Box K} {r : V} (h : TCp P f args' r) (hr : r.bare = true) (ha : args.map (Abs.fz (fun _ => true) H 8) = args') (hk : K r H) : CallB P f args H b :=
  CallB.w (TCp.read h hr ha) fun _ _ ⟨h1, h2⟩ => by rw [h1, h2]; exact hk

/-- The value that stands for a value without references. -/
theorem TCp.of_calls {P : Program} {f : FuncId} {args : List V} {r : V} (hfn : ∃ fn c, P.funcs[f]? = some fn ∧ fn.body = some c ∧ fn.name ≠ "runtime.NumGoroutine") (hr : r.bare = true)
    (h : ∀ (σ : St) (cargs : List Value), RepAll σ args cargs → Calls P f cargs.toArray σ.w fun e w' => ∃ c, e = .returned c ∧ RepV σ r c ∧ Below σ.w.heap.size σ.w w') : TCp P f args r := by
  rintro H σ cargs rfl I hargs
  obtain ⟨fn, c, h1, h2, h3⟩ := hfn
  have hent : (callFunc f cargs.toArray).run P σ.w = .ok (.enter f cargs.toArray) σ.w := by simp [callFunc, h1, h2, h3]
  unfold Answers
  rw [hent]
  refine Calls.mono (h σ cargs hargs) ?_
  rintro e w' ⟨c, rfl, hc, hb⟩
  obtain ⟨q1, q2⟩ := below_state I hb
  exact ⟨c, rfl, r, { σ with w := w' }, rfl, q1, RepV.bare _ _ hr hc, q2, rfl, rfl⟩
end Go.Abs
end
