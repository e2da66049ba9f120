/-
  Abstract states and the model's: the invariant, the step, the contract of a call, and the abstract weakest preconditions of code. Abstract states: new blocks, and what stays. Abstract code against the model's: the checks.
  Conditions: those that stand ahead of each theorem; no more.
-/
import Derived.Laws.StructEq
import Derived.Laws.Concat
import Derived.Laws.Strings2
import Derived.ChangeKeysEq
import Derived.Test.YtblnejkfaniljaaGreatDoorT01

section
namespace Go.Abs
open Go

def Unfrozen (c : Array Value) (fr : Nat × Nat) : Prop := ∀ o, o < c.size → ¬ (fr.1 ≤ o ∧ o < fr.2)

/-- What the model holds of an abstract block. -/
def BlkOk (σ : St) (t : Nat) : Blk → Prop
  | .cell v => ∃ c e fr, σ.w.heap[σ.g.b t]? = some (.cells c e fr) ∧ Unfrozen c fr ∧ RepC σ v c.toList ∧ ∀ o, ¬ σ.S (σ.g.b t) o
  | .map ks vs => ∃ es clk, σ.w.heap[σ.g.b t]? = some (.map es clk) ∧ RepVs σ ks (es.toList.map (·.key)) ∧ RepVs σ vs (es.toList.map (·.val)) ∧ ∀ o, ¬ σ.S (σ.g.b t) o
  | .row n sz => σ.g.live t = true → ∃ c e fr, σ.w.heap[σ.g.b t]? = some (.cells c e fr) ∧ Unfrozen c fr ∧ c.size = σ.g.cap t * sz ∧ n ≤ σ.g.cap t ∧ ∀ o, σ.S (σ.g.b t) o ↔ o < n * sz
  | .dead => True

/-- Is a block one that may be written? -/
def Res (σ : St) (t : Nat) : Prop := match σ.H[t]? with
  | some (.cell _) | some (.map _ _) => True
  | some (.row _ _) => σ.g.live t = true
  | _ => False

structure Inv (σ : St) : Prop where
  bound : ∀ b o, σ.S b o → b < σ.w.heap.size
  blk : ∀ t x, σ.H[t]? = some x → BlkOk σ t x
  inj : ∀ t t', Res σ t → Res σ t' → σ.g.b t = σ.g.b t' → t = t'

/-- From a state to another one: of what wasn't the code's to write nothing has turned; the first n blocks go on. -/
structure Tr (n : Nat) (σ σ' : St) : Prop where
  os : σ'.w.os = σ.w.os
  tape : σ'.w.tape = σ.w.tape
  output : σ'.w.output = σ.w.output
  size : σ.w.heap.size ≤ σ'.w.heap.size
  keep : ∀ b, b < σ.w.heap.size → (∀ t, Res σ t → σ.g.b t ≠ b) → σ'.w.heap[b]? = σ.w.heap[b]?
  S : ∀ b o, σ.S b o → σ'.S b o
  cell : ∀ b o v, σ.S b o → σ.w.cell? ⟨b, o, none⟩ = some v → σ'.w.cell? ⟨b, o, none⟩ = some v
  map : ∀ b es c, σ.S b 0 → σ.w.heap[b]? = some (.map es c) → σ'.w.heap[b]? = some (.map es c)
  nonew : ∀ b o, b < σ.w.heap.size → (∀ t, Res σ t → σ.g.b t ≠ b) → σ'.S b o → σ.S b o
  res : ∀ t, Res σ' t → (∃ t', Res σ t' ∧ σ.g.b t' = σ'.g.b t) ∨ σ.w.heap.size ≤ σ'.g.b t
  cells : ∀ t v, t < n → σ.H[t]? = some (.cell v) → ∃ v', σ'.H[t]? = some (.cell v') ∧ v'.shape = v.shape ∧ σ'.g.b t = σ.g.b t
  maps : ∀ t ks vs, t < n → σ.H[t]? = some (.map ks vs) → ∃ ks' vs', σ'.H[t]? = some (.map ks' vs') ∧ σ'.g.b t = σ.g.b t
  rows : ∀ t m sz, t < n → σ.H[t]? = some (.row m sz) → ∃ m', σ'.H[t]? = some (.row m' sz) ∧ (m < m' ∨ (m' = m ∧ σ'.g.b t = σ.g.b t ∧ σ'.g.cap t = σ.g.cap t ∧ σ'.g.live t = σ.g.live t))

theorem Tr.refl (n : Nat) (σ : St) : Tr n σ σ :=
  ⟨rfl, rfl, rfl, Nat.le_refl _, fun _ _ _ => rfl, fun _ _ h => h, fun _ _ _ _ h => h, fun _ _ _ _ h => h, fun _ _ _ _ h => h, fun t h => .inl ⟨t, h, rfl⟩,
    fun _ v _ h => ⟨v, h, rfl, rfl⟩, fun _ ks vs _ h => ⟨ks, vs, h, rfl⟩, fun _ m _ _ h => ⟨m, h, .inr ⟨rfl, rfl, rfl, rfl⟩⟩⟩

theorem Tr.trans {n : Nat} {a b c : St} (h : Tr n a b) (k : Tr n b c) : Tr n a c := by
  have hres : ∀ x, x < a.w.heap.size → (∀ t, Res a t → a.g.b t ≠ x) → ∀ t, Res b t → b.g.b t ≠ x := by
    intro x hx hno t ht e
    rcases h.res t ht with ⟨t', h1, h2⟩ | h1
    · exact hno t' h1 (h2.trans e)
    · omega
  refine ⟨k.os.trans h.os, k.tape.trans h.tape, k.output.trans h.output, Nat.le_trans h.size k.size, ?_, fun x y hx => k.S _ _ (h.S _ _ hx), fun x y v hs hv => k.cell _ _ _ (h.S _ _ hs) (h.cell _ _ _ hs hv),
    fun x es cl hs hv => k.map _ _ _ (h.S _ _ hs) (h.map _ _ _ hs hv), ?_, ?_, ?_, ?_, ?_⟩
  · intro x hx hno
    rw [k.keep x (Nat.lt_of_lt_of_le hx h.size) (hres x hx hno), h.keep x hx hno]
  · intro x o hx hno hs
    exact h.nonew x o hx hno (k.nonew x o (Nat.lt_of_lt_of_le hx h.size) (hres x hx hno) hs)
  · intro t ht
    rcases k.res t ht with ⟨t', h1, h2⟩ | h1
    · rcases h.res t' h1 with ⟨t'', g1, g2⟩ | g1
      · exact .inl ⟨t'', g1, g2.trans h2⟩
      · exact .inr (by omega)
    · have := h.size; exact .inr (by omega)
  · intro t v ht hv
    obtain ⟨v1, h1, h2, h3⟩ := h.cells t v ht hv
    obtain ⟨v2, k1, k2, k3⟩ := k.cells t v1 ht h1
    exact ⟨v2, k1, k2.trans h2, k3.trans h3⟩
  · intro t ks vs ht hv
    obtain ⟨k1, v1, h1, h2⟩ := h.maps t ks vs ht hv
    obtain ⟨k2, v2, g1, g2⟩ := k.maps t k1 v1 ht h1
    exact ⟨k2, v2, g1, g2.trans h2⟩
  · intro t m sz ht hv
    obtain ⟨n1, h1, h2⟩ := h.rows t m sz ht hv
    obtain ⟨n2, k1, k2⟩ := k.rows t n1 sz ht h1
    refine ⟨n2, k1, ?_⟩
    rcases h2 with h2 | ⟨rfl, a1, a2, a3⟩ <;> rcases k2 with k2 | ⟨rfl, b1, b2, b3⟩
    · exact .inl (by omega)
    · exact .inl h2
    · exact .inl k2
    · exact .inr ⟨rfl, b1.trans a1, b2.trans a2, b3.trans a3⟩

theorem Tr.mono {n m : Nat} {a b : St} (h : Tr n a b) (hm : m ≤ n) : Tr m a b :=
  { h with cells := fun t v ht => h.cells t v (by omega), maps := fun t ks vs ht => h.maps t ks vs (by omega), rows := fun t x sz ht => h.rows t x sz (by omega) }

theorem Tr.le {σ σ' : St} (h : Tr σ.H.length σ σ') : Le σ σ' :=
  ⟨h.S, h.cell, h.map, fun t v hv => h.cells t v (List.getElem?_eq_some_iff.1 hv).1 hv, fun t ks vs hv => h.maps t ks vs (List.getElem?_eq_some_iff.1 hv).1 hv, fun t m sz hv => h.rows t m sz (List.getElem?_eq_some_iff.1 hv).1 hv⟩

/-- Values, one for one. -/
def RepAll (σ : St) : List V → List Value → Prop
  | [], cs => cs = []
  | v :: vs, cs => ∃ c d, cs = c :: d ∧ RepV σ v c ∧ RepAll σ vs d

theorem RepAll.mono {σ σ' : St} (h : Le σ σ') : ∀ (vs : List V) (cs : List Value), RepAll σ vs cs → RepAll σ' vs cs
  | [], _, hr => hr
  | v :: vs, _, hr => by obtain ⟨c, d, h1, h2, h3⟩ := hr; exact ⟨c, d, h1, RepV.mono h v c h2, RepAll.mono h vs d h3⟩

/-- What a call comes to: a value at once, or a body that returns one. -/
def Answers (P : Program) (x : Result Next) (R : Value → World → Prop) : Prop := match x with
  | .ok (.value v) w => R v w
  | .ok (.enter f args) w => Calls P f args w fun e w' => ∃ v, e = .returned v ∧ R v w'
  | _ => False

theorem Answers.mono {P : Program} {x : Result Next} {R R' : Value → World → Prop} (h : Answers P x R) (hr : ∀ v w, R v w → R' v w) : Answers P x R' := by
  unfold Answers at h ⊢
  split at h
  · exact hr _ _ h
  · exact Calls.mono h fun e w ⟨v, h1, h2⟩ => ⟨v, h1, hr _ _ h2⟩
  · exact h.elim

/-- THE CONTRACT OF A CALL: from every state in which the arguments are so and the abstract heap is so, it returns, and what it returns and leaves is as said. -/
def TC (P : Program) (f : FuncId) (args : List V) (H : HP) (Q : V → HP → Prop) : Prop :=
  ∀ (σ : St) (cargs : List Value), σ.H = H → Inv σ → RepAll σ args cargs →
    Answers P ((callFunc f cargs.toArray).run P σ.w) fun c w' => ∃ r σ', σ'.w = w' ∧ Inv σ' ∧ RepV σ' r c ∧ Tr H.length σ σ' ∧ Q r σ'.H

theorem TC.mono {P : Program} {f : FuncId} {args : List V} {H : HP} {Q Q' : V → HP → Prop} (h : TC P f args H Q) (hq : ∀ r H', Q r H' → Q' r H') : TC P f args H Q' :=
  fun σ cargs h1 h2 h3 => (h σ cargs h1 h2 h3).mono fun _ _ ⟨r, σ', a2, a3, a4, a5, a6⟩ => ⟨r, σ', a2, a3, a4, a5, hq _ _ a6⟩

/-- A call that tells r and leaves every abstract heap as it was. -/
def TCp (P : Program) (f : FuncId) (args : List V) (r : V) : Prop := ∀ H, TC P f args H fun r' H' => r' = r ∧ H' = H

def CallW (P : Program) (f : FuncId) (args : List V) (H : HP) (K : V → HP → Prop) : Prop := ∃ Q, TC P f args H Q ∧ ∀ r H', Q r H' → K r H'

theorem CallW.of_pure {P : Program} {f : FuncId} {args : List V} {H : HP} {K : V → HP → Prop} {r : V} (h : TCp P f args r) (hk : K r H) : CallW P f args H K :=
  ⟨_, h H, fun _ _ ⟨h1, h2⟩ => by rw [h1, h2]; exact hk⟩

theorem CallW.of {P : Program} {f : FuncId} {args : List V} {H : HP} {K : V → HP → Prop} {Q : V → HP → Prop} (h : TC P f args H Q) (hk : ∀ r H', Q r H' → K r H') : CallW P f args H K := ⟨Q, h, hk⟩

/-- What an append appends. -/
def moreOf (H : HP) : V → Option (List V)
  | .str s => some (bytesV s)
  | v => elems H v
def moreSize : V → Nat
  | .str _ => 1
  | v => slSize v

/-- What an operation that makes or turns memory asks. -/
def eve (o : COp) (r : Opd → V) (H : HP) (K : V → HP → Prop) : Prop :=
  match o with
  | .alloc z => K (.ptr H.length []) (H ++ [.cell z])
  | .box x => (r x).plain = true ∧ K (.ptr H.length []) (H ++ [.cell (r x)])
  | .store sz a x => match r a with
    | .ptr t p => match H[t]? with
      | some (.cell v) => match v.at p, v.setAt p (r x) with
        | some y, some v' => (r x).plain = true ∧ (r x).shape = y.shape ∧ y.shape.size = sz ∧ K .junk (H.set t (.cell v'))
        | _, _ => False
      | _ => False
    | _ => False
  | .append sz bytes x y => match r x with
    | .sl sz' xs tk => match moreOf H (r y) with
      | some ys => sz' = sz ∧ moreSize (r y) = sz ∧ (xs.length + ys.length) * bytes ≤ 140737488355328 ∧ match tk with
        | .full => K (.sl sz (xs ++ ys) (.row H.length)) (H ++ [.row (xs.length + ys.length) sz])
        | .row t => H[t]? = some (.row xs.length sz) ∧ K (.sl sz (xs ++ ys) (.row t)) (H.set t (.row (xs.length + ys.length) sz))
        | .view => False
      | none => False
    | _ => False
  | .mkslA sz bytes z n => match r n with
    | .int .i64 m => 0 ≤ m ∧ m * bytes ≤ 140737488355328 ∧ z.shape.size = sz ∧ K (.arr H.length [] 0 m.toNat sz) (H ++ [.cell (.agg (List.replicate m.toNat z))])
    | _ => False
  | .mkslR sz bytes z n c => match r n, r c with
    | .int .i64 m, .int .i64 l => 0 ≤ m ∧ m ≤ l ∧ l * bytes ≤ 140737488355328 ∧ z.shape.size = sz ∧ K (.sl sz (List.replicate m.toNat z) (.row H.length)) (H ++ [.row m.toNat sz])
    | _, _ => False
  | .mkmap => K (.map H.length) (H ++ [.map [] []])
  | .mapup td m k v => match r m with
    | .map t => match H[t]? with
      | some (.map ks vs) => td.fits (r k) = true ∧ (∀ x ∈ ks, td.fits x = true) ∧ ks.length = vs.length ∧ (r v).plain = true ∧ match findV (r k) ks 0 with
        | some i => K .junk (H.set t (.map (ks.set i (r k)) (vs.set i (r v))))
        | none => K .junk (H.set t (.map (ks ++ [r k]) (vs ++ [r v])))
      | _ => False
    | _ => False
  | .delete td m k => match r m with
    | .map t => match H[t]? with
      | some (.map ks vs) => td.fits (r k) = true ∧ (∀ x ∈ ks, td.fits x = true) ∧ ks.length = vs.length ∧ match findV (r k) ks 0 with
        | some i => K (.tup []) (H.set t (.map (ks.eraseIdx i) (vs.eraseIdx i)))
        | none => K (.tup []) H
      | _ => False
    | _ => False
  | .copyA sz x y => match r x with
    | .arr t p off len sz' => match H[t]?, moreOf H (r y) with
      | some (.cell v), some ys => match v.at p with
        | some (.agg xs) => sz' = sz ∧ moreSize (r y) = sz ∧ (∀ i, i < min ys.length len → (ys.map V.shape)[i]? = (xs.map V.shape)[off + i]?) ∧
          match v.setAt p (.agg (xs.take off ++ ys.take (min ys.length len) ++ xs.drop (off + min ys.length len))) with
          | some v' => K (.int .i64 (min ys.length len : Nat)) (H.set t (.cell v'))
          | none => False
        | _ => False
      | _, _ => False
    | _ => False
  | .s2bR x => match r x with
    | .str s => K (.sl 1 (bytesV s) (.row H.length)) (H ++ [.row s.length 1])
    | _ => False
  | .nilSl neg x => match r x with
    | .sl _ xs _ => ∀ b, (b = true → xs = []) → K (.bool (if neg then !b else b)) H
    | .arr _ _ _ len _ => ∀ b, (b = true → len = 0) → K (.bool (if neg then !b else b)) H
    | _ => False
  | .appendA sz bytes z x y => match r x with
    | .sl sz' xs .full => match moreOf H (r y) with
      | some ys => sz' = sz ∧ xs = [] ∧ moreSize (r y) = sz ∧ z.shape.size = sz ∧ ys.length * bytes ≤ 140737488355328 ∧ (ys = [] → K (.sl sz [] .full) H) ∧
          (ys ≠ [] → ∀ extra, K (.arr H.length [] 0 ys.length sz) (H ++ [.cell (.agg (ys ++ List.replicate extra z))]))
      | none => False
    | _ => False
  | .clear sz z x => match r x with
    | .sl _ xs _ => xs = [] ∧ K (.tup []) H
    | .arr t p off len sz' => match H[t]? with
      | some (.cell v) => match v.at p with
        | some (.agg xs) => sz' = sz ∧ (∀ i, i < len → (xs.map V.shape)[off + i]? = some z.shape) ∧
          match v.setAt p (.agg (xs.take off ++ List.replicate len z ++ xs.drop (off + len))) with
          | some v' => K (.tup []) (H.set t (.cell v'))
          | none => False
        | _ => False
      | _ => False
    | _ => False
  | _ => False

def COp.opds : COp → List Opd
  | .mv x | .same x | .not x | .un _ x | .isNil _ _ x | .conv _ x | .b2s x | .s2b x | .fld _ _ _ _ x | .faddr _ _ x | .load _ _ x | .len _ x | .extract _ x | .s2ap _ x | .nilchk x | .box x | .mkslA _ _ _ x | .s2bR x | .nilSl _ x | .clear _ _ x => [x]
  | .pick c a b => [c, a, b]
  | .bin _ x y | .eqv _ _ x y | .iaddr _ x y | .iaddrA _ _ x y | .idxS x y | .idxA _ _ _ x y | .mm _ x y | .store _ x y | .append _ _ x y | .appendA _ _ _ x y | .mkslR _ _ _ x y | .delete _ x y | .copyA _ x y => [x, y]
  | .sliceS x lo hi | .slice _ x lo hi | .sliceA _ _ x lo hi => x :: (lo.toList ++ hi.toList)
  | .slice3 _ x lo hi mx => x :: (lo.toList ++ [hi, mx])
  | .mkfn _ a b => a ++ b
  | .build _ ps | .lit _ _ _ ps => ps.map (·.2)
  | .lookup _ _ _ m k => [m, k]
  | .mapup _ m k v => [m, k, v]
  | .alloc _ | .mkmap => []
  | .call _ args => args
  | .callv x args => x :: args

/-- Are all operands there? -/
def there (ρ : Nat → V) : List Opd → Bool
  | [] => true
  | x :: xs => (opv ρ x).un.1 && there ρ xs

def val (ρ : Nat → V) (x : Opd) : V := (opv ρ x).un.2

/-- The guard's truth. -/
def guardOf (v : V) (b : Bool) : Option Bool := match v with
  | .bool x => some (x == b)
  | .opt g (.bool x) => some (g && (x == b))
  | _ => none

/-- Pick: the picked operand alone need be there. -/
def pickP (ρ : Nat → V) (c a b : Opd) : Option (Prop × V) := match val ρ c with
  | .bool g => some ((opv ρ c).un.1 = true ∧ (g = true → (opv ρ a).un.1 = true) ∧ (g = false → (opv ρ b).un.1 = true), sel g (val ρ a) (val ρ b))
  | _ => none

/-- A pure operation, with its operands. -/
def pure1 (o : COp) (ρ : Nat → V) (H : HP) : Option (Prop × V) := match o with
  | .pick c a b => pickP ρ c a b
  | o => match evp o (val ρ) H with
    | some (c, v) => some (there ρ o.opds = true ∧ c, v)
    | none => none

def args1 (ρ : Nat → V) (args : List Opd) : List V := args.map fun x => (val ρ x).vw

/-- The called function and its arguments. -/
def target (ρ : Nat → V) : COp → Option (Nat × List V)
  | .call f args => some (f, args1 ρ args)
  | .callv x args => match val ρ x with
    | .fn f first cap => some (f, first ++ args1 ρ args ++ cap)
    | _ => none
  | _ => none

/-- One operation, whatever it does. -/
def OPW (P : Program) (o : COper) (ρ : Nat → V) (H : HP) (K : V → HP → Prop) : Prop :=
  match o.grd with
  | none => match target ρ o.op with
    | some (f, args) => there ρ o.op.opds = true ∧ CallW P f args H K
    | none => match pure1 o.op ρ H with
      | some (c, v) => c ∧ K v H
      | none => there ρ o.op.opds = true ∧ eve o.op (val ρ) H K
  | some (t, b) => match guardOf (ρ t) b with
    | none => False
    | some g => match target ρ o.op with
      | some (f, args) => ∃ r, (g = true → there ρ o.op.opds = true ∧ TCp P f args r) ∧ K (.opt g r) H
      | none => match pure1 o.op ρ H with
        | some (c, v) => (g = true → c) ∧ K (.opt g v) H
        | none => False

/-- One operation that leaves the abstract heap alone. -/
def OPQ (P : Program) (o : COper) (ρ : Nat → V) (H : HP) (v : V) : Prop :=
  match o.grd with
  | none => match target ρ o.op with
    | some (f, args) => there ρ o.op.opds = true ∧ TCp P f args v
    | none => match pure1 o.op ρ H with
      | some (c, u) => c ∧ v = u
      | none => False
  | some (t, b) => match guardOf (ρ t) b with
    | none => False
    | some g => match target ρ o.op with
      | some (f, args) => ∃ r, (g = true → there ρ o.op.opds = true ∧ TCp P f args r) ∧ v = .opt g r
      | none => match pure1 o.op ρ H with
        | some (c, u) => (g = true → c) ∧ v = .opt g u
        | none => False

/-- A region, in the text's order; the first n operations leave the abstract heap alone. -/
def RW (P : Program) : Nat → List COper → TM → HP → (TM → HP → Prop) → Prop
  | _, [], tm, H, K => K tm H
  | 0, o :: os, tm, H, K => OPW P o (lk tm) H fun v H' => RW P 0 os (put o.dst v tm) H' K
  | n + 1, o :: os, tm, H, K => ∃ v, OPQ P o (lk tm) H v ∧ RW P n os (put o.dst v tm) H K

/-- An operation of a drawn region in which effects and quiet operations may cross: is it an effect; at which heaps may it be done. -/
structure MOp where
  eff : Bool
  lo : Nat
  hi : Nat
  op : COper

/-- Abstract code. -/
inductive CC where
  | skip
  | reg (draw : Option Nat) (ops : List COper) (live : List Nat)
  | seq (a b : CC)
  | cond (c : Opd) (a b : CC)
  | block (id : Nat) (c : CC)
  | loop (c : CC)
  | exit (id : Nat)
  | scope (l : Nat) (c rest : CC)
  | label
  | goto (l : Nat)
  | ret
  | wk (c : CC)
  | regm (ops : List MOp) (live : List Nat)
  deriving Inhabited

inductive Ex where
  | normal
  | exit (id : Nat)
  | goto (l : Nat)
  | ret
  deriving DecidableEq

def keepLive (tm : TM) : List Nat → TM
  | [] => []
  | t :: l => (t, lk tm t) :: keepLive tm l
end Go.Abs
end

section
namespace Go.Abs
open Go

theorem cell_of_heap {w w' : World} {b o : Nat} {v : Value} (hh : ∀ x, w.heap[b]? = some x → w'.heap[b]? = some x) (h : w.cell? ⟨b, o, none⟩ = some v) : w'.cell? ⟨b, o, none⟩ = some v := by
  unfold World.cell? at h ⊢
  cases hb : w.heap[b]? with
  | none => simp [hb] at h
  | some x => rw [hb] at h; rw [hh x hb]; exact h

theorem heap_push {w w' : World} {x : Obj} (hw : w'.heap = w.heap.push x) {b : Nat} {y : Obj} (h : w.heap[b]? = some y) : w'.heap[b]? = some y := by
  have hb : b < w.heap.size := (Array.getElem?_eq_some_iff.1 h).1
  rw [hw, Array.getElem?_push]
  rw [if_neg (by omega)]
  exact h

/-- A block goes on being what it was. -/
theorem BlkOk.keep {σ σ' : St} (h : Le σ σ') {t : Nat} {x : Blk} (hg : σ'.g.b t = σ.g.b t ∧ σ'.g.cap t = σ.g.cap t ∧ σ'.g.live t = σ.g.live t)
    (hh : ∀ o, σ.w.heap[σ.g.b t]? = some o → σ'.w.heap[σ.g.b t]? = some o)
    (hS : ∀ y, σ.w.heap[σ.g.b t]? = some y → ∀ o, σ'.S (σ.g.b t) o ↔ σ.S (σ.g.b t) o) (hb : BlkOk σ t x) : BlkOk σ' t x := by
  obtain ⟨g1, g2, g3⟩ := hg
  cases x with
  | cell v =>
    obtain ⟨c, e, fr, h1, h2, h3, h4⟩ := hb
    exact ⟨c, e, fr, by rw [g1]; exact hh _ h1, h2, RepC.mono h v _ h3, fun o ho => h4 o ((hS _ h1 o).1 (by rw [g1] at ho; exact ho))⟩
  | map ks vs =>
    obtain ⟨es, clk, h1, h2, h3, h4⟩ := hb
    exact ⟨es, clk, by rw [g1]; exact hh _ h1, RepVs.mono h ks _ h2, RepVs.mono h vs _ h3, fun o ho => h4 o ((hS _ h1 o).1 (by rw [g1] at ho; exact ho))⟩
  | row n sz =>
    intro hl
    rw [g3] at hl
    obtain ⟨c, e, fr, h1, h2, h3, h4, h5⟩ := hb hl
    exact ⟨c, e, fr, by rw [g1]; exact hh _ h1, h2, by rw [g2]; exact h3, by rw [g2]; exact h4, fun o => by rw [g1]; exact (hS _ h1 o).trans (h5 o)⟩
  | dead => trivial

theorem Res.lt {σ : St} (I : Inv σ) {t : Nat} (h : Res σ t) : σ.g.b t < σ.w.heap.size := by
  unfold Res at h
  cases ht : σ.H[t]? with
  | none => rw [ht] at h; exact h.elim
  | some x =>
    rw [ht] at h
    have hb := I.blk t x ht
    cases x with
    | cell v => obtain ⟨c, e, fr, h1, _⟩ := hb; exact (Array.getElem?_eq_some_iff.1 h1).1
    | map ks vs => obtain ⟨es, clk, h1, _⟩ := hb; exact (Array.getElem?_eq_some_iff.1 h1).1
    | row n sz => obtain ⟨c, e, fr, h1, _⟩ := hb h; exact (Array.getElem?_eq_some_iff.1 h1).1
    | dead => exact h.elim

/-- The world has a block more, some of whose cells are settled; the abstract heap stays. -/
def St.grow (σ : St) (w' : World) (p : Nat → Prop) : St := { σ with w := w', S := fun b o => σ.S b o ∨ (b = σ.w.heap.size ∧ p o) }

theorem St.grow_tr {σ : St} (_I : Inv σ) {w' : World} {x : Obj} (p : Nat → Prop) (hw : w'.heap = σ.w.heap.push x) (h1 : w'.os = σ.w.os) (h2 : w'.tape = σ.w.tape) (h3 : w'.output = σ.w.output) (n : Nat) : Tr n σ (σ.grow w' p) := by
  refine ⟨h1, h2, h3, ?_, ?_, fun b o h => .inl h, ?_, ?_, ?_, fun t ht => .inl ⟨t, ht, rfl⟩, fun t v _ hv => ⟨v, hv, rfl, rfl⟩, fun t ks vs _ hv => ⟨ks, vs, hv, rfl⟩, fun t m sz _ hv => ⟨m, hv, .inr ⟨rfl, rfl, rfl, rfl⟩⟩⟩
  · show _ ≤ w'.heap.size; rw [hw]; simp
  · intro b hb _
    show w'.heap[b]? = _
    rw [hw, Array.getElem?_push, if_neg (by omega)]
  · intro b o v hs hv; exact cell_of_heap (fun y hy => heap_push hw hy) hv
  · intro b es c hs hv; exact heap_push hw hv
  · intro b o hb _ hs
    rcases hs with hs | ⟨rfl, _⟩
    · exact hs
    · omega

theorem St.grow_inv {σ : St} (I : Inv σ) {w' : World} {x : Obj} (p : Nat → Prop) (hw : w'.heap = σ.w.heap.push x) (h1 : w'.os = σ.w.os) (h2 : w'.tape = σ.w.tape) (h3 : w'.output = σ.w.output) : Inv (σ.grow w' p) := by
  have hle : Le σ (σ.grow w' p) := (σ.grow_tr I p hw h1 h2 h3 σ.H.length).le
  refine ⟨?_, ?_, fun t t' ht ht' e => I.inj t t' ht ht' e⟩
  · intro b o h
    show b < w'.heap.size
    rw [hw]; simp only [Array.size_push]
    rcases h with h | ⟨rfl, _⟩
    · have := I.bound b o h; omega
    · omega
  · intro t y hy
    refine BlkOk.keep hle ⟨rfl, rfl, rfl⟩ (fun o ho => heap_push hw ho) ?_ (I.blk t y hy)
    intro z hz o
    have hb := (Array.getElem?_eq_some_iff.1 hz).1
    constructor
    · rintro (h | ⟨h, _⟩)
      · exact h
      · omega
    · exact .inl

/-- A draw. -/
theorem St.draw_tr (σ : St) (n : Nat) (k : Nat) : Tr n σ { σ with w := { σ.w with drawn := k } } :=
  ⟨rfl, rfl, rfl, Nat.le_refl _, fun _ _ _ => rfl, fun _ _ h => h, fun _ _ _ _ h => h, fun _ _ _ _ h => h, fun _ _ _ _ h => h, fun t h => .inl ⟨t, h, rfl⟩,
    fun _ v _ h => ⟨v, h, rfl, rfl⟩, fun _ ks vs _ h => ⟨ks, vs, h, rfl⟩, fun _ m _ _ h => ⟨m, h, .inr ⟨rfl, rfl, rfl, rfl⟩⟩⟩

theorem St.draw_inv {σ : St} (I : Inv σ) (k : Nat) : Inv { σ with w := { σ.w with drawn := k } } :=
  ⟨I.bound, fun t x h => BlkOk.keep (St.draw_tr σ σ.H.length k).le ⟨rfl, rfl, rfl⟩ (fun _ h => h) (fun _ _ _ => Iff.rfl) (I.blk t x h), I.inj⟩

def Ghost.put (g : Ghost) (t b cap : Nat) (live : Bool) : Ghost := ⟨fun i => if i = t then b else g.b i, fun i => if i = t then cap else g.cap i, fun i => if i = t then live else g.live i⟩

/-- A block more in both. -/
def St.ext (σ : St) (w' : World) (p : Nat → Prop) (x : Blk) (cap : Nat) (live : Bool) : St :=
  { w := w', S := fun b o => σ.S b o ∨ (b = σ.w.heap.size ∧ p o), g := σ.g.put σ.H.length σ.w.heap.size cap live, H := σ.H ++ [x] }

theorem getElem?_snoc_old {α : Type} {l : List α} {x y : α} {t : Nat} (h : l[t]? = some y) : (l ++ [x])[t]? = some y := by
  rw [List.getElem?_append_left (List.getElem?_eq_some_iff.1 h).1]; exact h

theorem getElem?_snoc {α : Type} {l : List α} {x y : α} {t : Nat} (h : (l ++ [x])[t]? = some y) : (t < l.length ∧ l[t]? = some y) ∨ (t = l.length ∧ y = x) := by
  rcases Nat.lt_trichotomy t l.length with h1 | h1 | h1
  · exact .inl ⟨h1, by rw [List.getElem?_append_left h1] at h; exact h⟩
  · subst h1; simp at h; exact .inr ⟨rfl, h.symm⟩
  · rw [List.getElem?_eq_none (by simp; omega)] at h; cases h

theorem St.ext_g (σ : St) (w' : World) (p : Nat → Prop) (x : Blk) (cap : Nat) (live : Bool) {t : Nat} (h : t < σ.H.length) :
    (σ.ext w' p x cap live).g.b t = σ.g.b t ∧ (σ.ext w' p x cap live).g.cap t = σ.g.cap t ∧ (σ.ext w' p x cap live).g.live t = σ.g.live t := by
  have : t ≠ σ.H.length := by omega
  simp [St.ext, Ghost.put, this]

theorem St.ext_g_new (σ : St) (w' : World) (p : Nat → Prop) (x : Blk) (cap : Nat) (live : Bool) :
    (σ.ext w' p x cap live).g.b σ.H.length = σ.w.heap.size ∧ (σ.ext w' p x cap live).g.cap σ.H.length = cap ∧ (σ.ext w' p x cap live).g.live σ.H.length = live := by
  simp [St.ext, Ghost.put]

theorem Res.old {σ : St} {w' : World} {p : Nat → Prop} {x : Blk} {cap : Nat} {live : Bool} {t : Nat} (h : Res (σ.ext w' p x cap live) t) : (t < σ.H.length ∧ Res σ t) ∨ t = σ.H.length := by
  unfold Res at h ⊢
  cases ht : (σ.ext w' p x cap live).H[t]? with
  | none => rw [ht] at h; exact h.elim
  | some y =>
    rw [ht] at h
    rcases getElem?_snoc (show (σ.H ++ [x])[t]? = some y from ht) with ⟨h1, h2⟩ | ⟨h1, _⟩
    · refine .inl ⟨h1, ?_⟩
      rw [h2]
      cases y with
      | row n sz => rw [(σ.ext_g w' p x cap live h1).2.2] at h; exact h
      | _ => exact h
    · exact .inr h1

theorem St.ext_tr {σ : St} (_I : Inv σ) {w' : World} {o : Obj} (p : Nat → Prop) (x : Blk) (cap : Nat) (live : Bool) (hw : w'.heap = σ.w.heap.push o) (h1 : w'.os = σ.w.os) (h2 : w'.tape = σ.w.tape) (h3 : w'.output = σ.w.output) :
    Tr σ.H.length σ (σ.ext w' p x cap live) := by
  refine ⟨h1, h2, h3, ?_, ?_, fun b o h => .inl h, ?_, ?_, ?_, ?_, ?_, ?_, ?_⟩
  · show _ ≤ w'.heap.size; rw [hw]; simp
  · intro b hb _
    show w'.heap[b]? = _
    rw [hw, Array.getElem?_push, if_neg (by omega)]
  · intro b o v hs hv; exact cell_of_heap (fun y hy => heap_push hw hy) hv
  · intro b es c hs hv; exact heap_push hw hv
  · intro b o hb _ hs
    rcases hs with hs | ⟨rfl, _⟩
    · exact hs
    · omega
  · intro t ht
    rcases Res.old ht with ⟨h4, h5⟩ | rfl
    · exact .inl ⟨t, h5, (σ.ext_g w' p x cap live h4).1.symm⟩
    · exact .inr (by rw [(σ.ext_g_new w' p x cap live).1]; exact Nat.le_refl _)
  · intro t v ht hv; exact ⟨v, getElem?_snoc_old hv, rfl, (σ.ext_g w' p x cap live ht).1⟩
  · intro t ks vs ht hv; exact ⟨ks, vs, getElem?_snoc_old hv, (σ.ext_g w' p x cap live ht).1⟩
  · intro t m sz ht hv; exact ⟨m, getElem?_snoc_old hv, .inr ⟨rfl, σ.ext_g w' p x cap live ht⟩⟩

theorem St.ext_inv {σ : St} (I : Inv σ) {w' : World} {o : Obj} (p : Nat → Prop) (x : Blk) (cap : Nat) (live : Bool) (hw : w'.heap = σ.w.heap.push o) (h1 : w'.os = σ.w.os) (h2 : w'.tape = σ.w.tape) (h3 : w'.output = σ.w.output)
    (hx : BlkOk (σ.ext w' p x cap live) σ.H.length x) : Inv (σ.ext w' p x cap live) := by
  have hle := (σ.ext_tr I p x cap live hw h1 h2 h3).le
  refine ⟨?_, ?_, ?_⟩
  · intro b o h
    show b < w'.heap.size
    rw [hw]; simp only [Array.size_push]
    rcases h with h | ⟨rfl, _⟩
    · have := I.bound b o h; omega
    · omega
  · intro t y hy
    rcases getElem?_snoc (show (σ.H ++ [x])[t]? = some y from hy) with ⟨h4, h5⟩ | ⟨rfl, rfl⟩
    · refine BlkOk.keep hle (σ.ext_g w' p x cap live h4) (fun o ho => heap_push hw ho) ?_ (I.blk t y h5)
      intro z hz o
      have hb := (Array.getElem?_eq_some_iff.1 hz).1
      constructor
      · rintro (h | ⟨h, _⟩)
        · exact h
        · omega
      · exact .inl
    · exact hx
  · intro t t' ht ht' e
    rcases Res.old ht with ⟨h4, h5⟩ | rfl <;> rcases Res.old ht' with ⟨h6, h7⟩ | rfl
    · rw [(σ.ext_g w' p x cap live h4).1, (σ.ext_g w' p x cap live h6).1] at e
      exact I.inj t t' h5 h7 e
    · rw [(σ.ext_g w' p x cap live h4).1, (σ.ext_g_new w' p x cap live).1] at e
      have := Res.lt I h5; omega
    · rw [(σ.ext_g_new w' p x cap live).1, (σ.ext_g w' p x cap live h6).1] at e
      have := Res.lt I h7; omega
    · rfl

/-- The abstract heap has one block more that is no block of the model's. -/
theorem St.ext0_tr (σ : St) (x : Blk) (cap b : Nat) (hx : ∃ n sz, x = .row n sz) : Tr σ.H.length σ { σ with g := σ.g.put σ.H.length b cap false, H := σ.H ++ [x] } := by
  obtain ⟨n, sz, rfl⟩ := hx
  have hg : ∀ t, t < σ.H.length → (σ.g.put σ.H.length b cap false).b t = σ.g.b t ∧ (σ.g.put σ.H.length b cap false).cap t = σ.g.cap t ∧ (σ.g.put σ.H.length b cap false).live t = σ.g.live t := by
    intro t ht
    have : t ≠ σ.H.length := by omega
    simp [Ghost.put, this]
  refine ⟨rfl, rfl, rfl, Nat.le_refl _, fun _ _ _ => rfl, fun _ _ h => h, fun _ _ _ _ h => h, fun _ _ _ _ h => h, fun _ _ _ _ h => h, ?_, fun t v ht hv => ⟨v, getElem?_snoc_old hv, rfl, (hg t ht).1⟩, fun t ks vs ht hv => ⟨ks, vs, getElem?_snoc_old hv, (hg t ht).1⟩, fun t m sz ht hv => ⟨m, getElem?_snoc_old hv, .inr ⟨rfl, hg t ht⟩⟩⟩
  intro t ht
  unfold Res at ht
  dsimp only at ht
  cases hy : (σ.H ++ [Blk.row n sz])[t]? with
  | none => rw [hy] at ht; exact ht.elim
  | some y =>
    rw [hy] at ht
    rcases getElem?_snoc hy with ⟨h1, h2⟩ | ⟨rfl, rfl⟩
    · refine .inl ⟨t, ?_, (hg t h1).1.symm⟩
      unfold Res; rw [h2]
      cases y with
      | row n sz => dsimp only at ht ⊢; rw [(hg t h1).2.2] at ht; exact ht
      | _ => exact ht
    · simp [Ghost.put] at ht

theorem St.ext0_inv {σ : St} (I : Inv σ) (n sz cap b : Nat) : Inv { σ with g := σ.g.put σ.H.length b cap false, H := σ.H ++ [.row n sz] } := by
  have hle := (σ.ext0_tr (.row n sz) cap b ⟨n, sz, rfl⟩).le
  have hg : ∀ t, t < σ.H.length → (σ.g.put σ.H.length b cap false).b t = σ.g.b t ∧ (σ.g.put σ.H.length b cap false).cap t = σ.g.cap t ∧ (σ.g.put σ.H.length b cap false).live t = σ.g.live t := by
    intro t ht
    have : t ≠ σ.H.length := by omega
    simp [Ghost.put, this]
  have hres : ∀ t, Res { σ with g := σ.g.put σ.H.length b cap false, H := σ.H ++ [.row n sz] } t → t < σ.H.length ∧ Res σ t := by
    intro t ht
    unfold Res at ht
    dsimp only at ht
    cases hy : (σ.H ++ [Blk.row n sz])[t]? with
    | none => rw [hy] at ht; exact ht.elim
    | some y =>
      rw [hy] at ht
      rcases getElem?_snoc hy with ⟨h1, h2⟩ | ⟨rfl, rfl⟩
      · refine ⟨h1, ?_⟩
        unfold Res; rw [h2]
        cases y with
        | row n sz => dsimp only at ht ⊢; rw [(hg t h1).2.2] at ht; exact ht
        | _ => exact ht
      · simp [Ghost.put] at ht
  refine ⟨I.bound, ?_, ?_⟩
  · intro t y hy
    rcases getElem?_snoc (show (σ.H ++ [Blk.row n sz])[t]? = some y from hy) with ⟨h4, h5⟩ | ⟨rfl, rfl⟩
    · exact BlkOk.keep hle (hg t h4) (fun _ h => h) (fun _ _ _ => Iff.rfl) (I.blk t y h5)
    · intro hl; simp [Ghost.put] at hl
  · intro t t' ht ht' e
    obtain ⟨h1, h2⟩ := hres t ht
    obtain ⟨h3, h4⟩ := hres t' ht'
    dsimp only at e
    rw [(hg t h1).1, (hg t' h3).1] at e
    exact I.inj t t' h2 h4 e
end Go.Abs
end

section
namespace Go.Abs
open Go

mutual
/-- The cells of a closed value. -/
def V.flat : V → Option (List Value)
  | .int k n => some [.int k n]
  | .bool b => some [.bool b]
  | .str s => some [.string ⟨s.toArray⟩]
  | .agg xs => V.flatL xs
  | .sl _ [] .full => some [.slice none 0 0]
  | .nilp => some [.pointer none]
  | .nilmap => some [.map none]
  | .nilfn => some [.nilFunc]
  | _ => none
def V.flatL : List V → Option (List Value)
  | [] => some []
  | x :: xs => match x.flat, V.flatL xs with
    | some c, some d => some (c ++ d)
    | _, _ => none
end

mutual
theorem V.flat_rep {σ : St} : ∀ (v : V) (cs : List Value), v.flat = some cs → RepC σ v cs
  | .int k n, cs, h => by simp [V.flat] at h; simp [RepC, h]
  | .bool b, cs, h => by simp [V.flat] at h; simp [RepC, h]
  | .str s, cs, h => by simp [V.flat] at h; simp [RepC, h]
  | .agg xs, cs, h => by simp only [V.flat] at h; simp only [RepC]; exact V.flatL_rep xs cs h
  | .sl sz [] .full, cs, h => by simp [V.flat] at h; subst h; exact ⟨none, 0, by simp, by simp, rfl, .inl rfl⟩
  | .nilp, cs, h => by simp [V.flat] at h; simp [RepC, h]
  | .nilmap, cs, h => by simp [V.flat] at h; simp [RepC, h]
  | .nilfn, cs, h => by simp [V.flat] at h; simp [RepC, h]
  | .sl sz (x :: xs) tk, cs, h => by simp [V.flat] at h
  | .sl sz [] .view, cs, h => by simp [V.flat] at h
  | .sl sz [] (.row t), cs, h => by simp [V.flat] at h
  | .junk, cs, h => by simp [V.flat] at h
  | .arr .., cs, h => by simp [V.flat] at h
  | .ptr .., cs, h => by simp [V.flat] at h
  | .box .., cs, h => by simp [V.flat] at h
  | .map .., cs, h => by simp [V.flat] at h
  | .mapv .., cs, h => by simp [V.flat] at h
  | .fn .., cs, h => by simp [V.flat] at h
  | .tup .., cs, h => by simp [V.flat] at h
  | .opt .., cs, h => by simp [V.flat] at h
theorem V.flatL_rep {σ : St} : ∀ (xs : List V) (cs : List Value), V.flatL xs = some cs → RepL σ xs cs
  | [], cs, h => by simp [V.flatL] at h; simp [RepL, h]
  | x :: xs, cs, h => by
    simp only [V.flatL] at h
    split at h
    · rename_i c d h1 h2
      cases h
      exact ⟨c, d, rfl, V.flat_rep x c h1, V.flatL_rep xs d h2⟩
    · cases h
end

def eqCell : Value → Value → Bool
  | .int k n, .int k' n' => k == k' && n == n'
  | .bool a, .bool b => a == b
  | .string a, .string b => a.data.toList == b.data.toList
  | .slice none a b, .slice none c d => a == c && b == d
  | .pointer none, .pointer none => true
  | .map none, .map none => true
  | .nilFunc, .nilFunc => true
  | _, _ => false

theorem eqCell_eq {a b : Value} (h : eqCell a b = true) : a = b := by
  unfold eqCell at h
  split at h <;> simp_all
  rename_i x y
  obtain ⟨⟨x⟩⟩ := x
  obtain ⟨⟨y⟩⟩ := y
  simp_all

def eqCells : List Value → List Value → Bool
  | [], [] => true
  | a :: as, b :: bs => eqCell a b && eqCells as bs
  | _, _ => false

theorem eqCells_eq : ∀ {a b : List Value}, eqCells a b = true → a = b
  | [], [], _ => rfl
  | x :: xs, y :: ys, h => by
    simp only [eqCells, Bool.and_eq_true] at h
    rw [eqCell_eq h.1, eqCells_eq h.2]
  | [], _ :: _, h => by simp [eqCells] at h
  | _ :: _, [], h => by simp [eqCells] at h

def isAggC : Value → Bool
  | .agg _ => true
  | _ => false

theorem cells_one {c : Value} (h : isAggC c = false) : c.cells = #[c] := by
  cases c <;> first | rfl | cases h

theorem wrap_one {v : V} {l : List Value} {c : Value} (h : isAggV v = false) : Wrap v l c ↔ l = [c] := by
  cases v <;> first | rfl | cases h

theorem wrap_agg {v : V} {l : List Value} {c : Value} (h : isAggV v = true) : Wrap v l c ↔ c = .agg l.toArray := by
  cases v <;> first | rfl | cases h

theorem flat_plain {v : V} {l : List Value} (h : v.flat = some l) : v.plain = true := by
  cases v <;> first | rfl | (simp [V.flat] at h; done)

/-- Is a constant this value? -/
def constOk (v : V) (c : Value) : Bool := match v.flat with
  | some l => eqCells l c.cells.toList && (isAggV v == isAggC c)
  | none => false

theorem constOk_rep {v : V} {c : Value} (h : constOk v c = true) (σ : St) : v.plain = true ∧ ∃ l, RepC σ v l ∧ Wrap v l c ∧ l = c.cells.toList := by
  unfold constOk at h
  split at h
  · rename_i l hl
    simp only [Bool.and_eq_true, beq_iff_eq] at h
    have e := eqCells_eq h.1
    have hr := V.flat_rep (σ := σ) v l hl
    refine ⟨flat_plain hl, l, hr, ?_, e⟩
    cases hv : isAggV v with
    | true =>
      rw [hv] at h
      rw [wrap_agg hv]
      cases c <;> first | (exfalso; have := h.2; simp [isAggC] at this; done) | (rw [e]; simp [Value.cells])
    | false =>
      rw [hv] at h
      rw [wrap_one hv, e, cells_one h.2.symm]
  · cases h

theorem constOk_repV {v : V} {c : Value} (h : constOk v c = true) (σ : St) : RepV σ v c := by
  obtain ⟨h1, l, h2, h3, _⟩ := constOk_rep h σ
  exact (RepV.of_plain h1).2 ⟨l, h2, h3⟩

def chkOpd : Operand → Opd → Bool
  | .tmp i, .t j => i == j
  | .const v, .c w => constOk w v
  | .func f, .f n => f == n
  | _, _ => false

def chkOpds : List Operand → List Opd → Bool
  | [], [] => true
  | x :: xs, y :: ys => chkOpd x y && chkOpds xs ys
  | _, _ => false

def chkParts : List (Nat × Operand) → List (Nat × Opd) → Bool
  | [], [] => true
  | (i, x) :: xs, (j, y) :: ys => i == j && chkOpd x y && chkParts xs ys
  | _, _ => false

def chkOpt : Option Operand → Option Opd → Bool
  | none, none => true
  | some x, some y => chkOpd x y
  | _, _ => false

/-- The slots hold the values. -/
def RepF (σ : St) (ρ : Nat → V) (a : Act) : Prop := ∀ i, RepV σ (ρ i) (a.tmps.getD i undef)

theorem un_rep {σ : St} {v : V} {c : Value} (h : RepV σ v c) (hu : v.un.1 = true) : RepV σ v.un.2 c := by
  cases v with
  | opt g v => exact h.1 hu
  | _ => exact h

theorem opd_rep {σ : St} {ρ : Nat → V} {a : Act} (hf : RepF σ ρ a) {x : Operand} {y : Opd} (hc : chkOpd x y = true) (hu : (opv ρ y).un.1 = true) : RepV σ (val ρ y) (a.eval x) := by
  unfold val
  refine un_rep ?_ hu
  unfold chkOpd at hc
  split at hc
  · rename_i i j
    have : i = j := by simpa using hc
    subst this
    exact hf i
  · exact constOk_repV hc σ
  · rename_i f n
    have : f = n := by simpa using hc
    subst this
    exact (RepV.of_plain rfl).2 ⟨[.func (.func f) #[] #[]], ⟨#[], #[], rfl, rfl, rfl⟩, rfl⟩
  · cases hc

theorem there_cons {ρ : Nat → V} {x : Opd} {xs : List Opd} : there ρ (x :: xs) = true ↔ (opv ρ x).un.1 = true ∧ there ρ xs = true := by simp [there]

theorem opds_rep {σ : St} {ρ : Nat → V} {a : Act} (hf : RepF σ ρ a) : ∀ {xs : List Operand} {ys : List Opd}, chkOpds xs ys = true → there ρ ys = true → RepAll σ (ys.map (val ρ)) (xs.map a.eval)
  | [], [], _, _ => rfl
  | x :: xs, y :: ys, h, ht => by
    simp only [chkOpds, Bool.and_eq_true] at h
    rw [there_cons] at ht
    exact ⟨_, _, rfl, opd_rep hf h.1 ht.1, opds_rep hf h.2 ht.2⟩
  | [], _ :: _, h, _ => by simp [chkOpds] at h
  | _ :: _, [], h, _ => by simp [chkOpds] at h

/-! Types. -/
def szIs (P : Program) (t : TypeId) (n : Nat) : Bool := match P.info? t with | some i => i.size == n | none => false
def bytesIs (P : Program) (t : TypeId) (n : Nat) : Bool := match P.info? t with | some i => i.bytes == n | none => false
def aggIs (P : Program) (t : TypeId) (b : Bool) : Bool := match P.underlying t with
  | some (.struct _) | some (.array _ _) => b
  | some _ => !b
  | none => false
def zeroIs (P : Program) (t : TypeId) (z : V) : Bool := match P.info? t with
  | some i => match i.zero with
    | some v => constOk z v
    | none => false
  | none => false
def isDesc (P : Program) (t : TypeId) (d : TypeDesc → Bool) : Bool := match P.underlying t with | some x => d x | none => false

section
variable {P : Program}
theorem run_info {t : TypeId} {i : TypeInfo} (h : P.info? t = some i) (w : World) : (typeInfo t).run P w = .ok i w := run_typeInfo w h

theorem run_size {t : TypeId} {n : Nat} (h : szIs P t n = true) (w : World) : (sizeOf t).run P w = .ok n w := by
  unfold szIs at h
  split at h
  · rename_i i hi
    have : i.size = n := by simpa using h
    simp [sizeOf, run_info hi, this]
  · cases h

theorem run_agg {t : TypeId} {b : Bool} (h : aggIs P t b = true) (w : World) : (isAgg t).run P w = .ok b w := by
  unfold aggIs at h
  unfold isAgg
  cases hu : P.underlying t with
  | none => rw [hu] at h; cases h
  | some d =>
    rw [hu] at h
    simp only [Sem.run_bind, run_underlying hu, Result.andThen_ok]
    cases d <;> simp_all

theorem run_zero {t : TypeId} {z : V} (h : zeroIs P t z = true) : ∃ v, constOk z v = true ∧ ∀ w, (zeroValue t).run P w = .ok v w := by
  unfold zeroIs at h
  split at h
  · rename_i i hi
    split at h
    · rename_i v hv
      exact ⟨v, h, fun w => by simp [zeroValue, run_info hi, hv]⟩
    · cases h
  · cases h
end
end Go.Abs
end
