/-
  Abstract values, shapes and heaps, and what it means that the model's memory holds them. Abstract values: what they hold stays held as long as the settled cells stay. Abstract code: operations with their types' sizes resolved, and what they do to abstract states.
  Conditions: those that stand ahead of each theorem; no more.
-/
import Derived.Calls
import Derived.Laws.World
import Derived.Laws.NewBlocks

section
namespace Go.Abs
open Go

/-- What is known of a slice's room: nothing; that there is none; that it is the end of an owned row. -/
inductive Tok where
  | view
  | full
  | row (t : Nat)
  deriving DecidableEq

/-- Abstract values. -/
inductive V where
  | junk
  | int (k : IntKind) (n : Int)
  | bool (b : Bool)
  | str (s : List UInt8)
  | agg (xs : List V)
  | sl (sz : Nat) (xs : List V) (tk : Tok)
  | arr (t : Nat) (p : List Nat) (off len sz : Nat)
  | ptr (t : Nat) (p : List Nat)
  | nilp
  | box (x : V)
  | map (t : Nat)
  | nilmap
  | mapv (ks vs : List V)
  | fn (f : Nat) (first cap : List V)
  | nilfn
  | tup (vs : List V)
  | opt (g : Bool) (v : V)
  deriving Inhabited

/-- Shapes: one cell, or parts one behind the other. -/
inductive Sh where
  | one
  | agg (l : List Sh)
  deriving Inhabited

mutual
def Sh.size : Sh → Nat
  | .one => 1
  | .agg l => Sh.sizeL l
def Sh.sizeL : List Sh → Nat
  | [] => 0
  | s :: l => s.size + Sh.sizeL l
end

mutual
def V.shape : V → Sh
  | .agg xs => .agg (V.shapeL xs)
  | _ => .one
def V.shapeL : List V → List Sh
  | [] => []
  | x :: xs => x.shape :: V.shapeL xs
end

theorem V.shapeL_eq (xs : List V) : V.shapeL xs = xs.map V.shape := by
  induction xs with
  | nil => simp [V.shapeL]
  | cons x xs ih => simp [V.shapeL, ih]

theorem Sh.sizeL_append (a b : List Sh) : Sh.sizeL (a ++ b) = Sh.sizeL a + Sh.sizeL b := by
  induction a with
  | nil => simp [Sh.sizeL]
  | cons x a ih => simp [Sh.sizeL, ih]; omega

/-- Where a part begins. -/
def Sh.off : Sh → List Nat → Option Nat
  | _, [] => some 0
  | .agg l, i :: p => match l[i]? with
    | some s => (s.off p).map (Sh.sizeL (l.take i) + ·)
    | none => none
  | .one, _ :: _ => none

/-- A part's shape. -/
def Sh.at : Sh → List Nat → Option Sh
  | s, [] => some s
  | .agg l, i :: p => match l[i]? with
    | some s => s.at p
    | none => none
  | .one, _ :: _ => none

/-- A part. -/
def V.at : V → List Nat → Option V
  | v, [] => some v
  | .agg xs, i :: p => match xs[i]? with
    | some x => x.at p
    | none => none
  | _, _ :: _ => none

/-- A value with another part. -/
def V.setAt : V → List Nat → V → Option V
  | _, [], x => some x
  | .agg xs, i :: p, x => match xs[i]? with
    | some y => (y.setAt p x).map fun z => .agg (xs.set i z)
    | none => none
  | _, _ :: _, _ => none

/-- The abstract heap's blocks. -/
inductive Blk where
  | cell (v : V)
  | map (ks vs : List V)
  | row (n sz : Nat)
  | dead
  deriving Inhabited

abbrev HP := List Blk

/-- Which of the model's blocks an abstract block is. -/
structure Ghost where
  b : Nat → Nat
  cap : Nat → Nat
  live : Nat → Bool

/-- A state: the model's world, the cells that are settled, the abstract heap. -/
structure St where
  w : World
  S : Nat → Nat → Prop
  g : Ghost
  H : HP

/-- Cells that are settled, from a place on. -/
def St.has (σ : St) (b o : Nat) (cs : List Value) : Prop := ∀ k (h : k < cs.length), σ.S b (o + k) ∧ σ.w.cell? ⟨b, o + k, none⟩ = some cs[k]

def shapeAt (H : HP) (t : Nat) : Option Sh := match H[t]? with
  | some (.cell v) => some v.shape
  | _ => none

/-- What a token says of a slice's value. -/
def TokOk (σ : St) (sz n : Nat) (a : Option Addr) (cap : Nat) : Tok → Prop
  | .view => True
  | .full => cap = n
  | .row t => ∃ m, σ.H[t]? = some (.row m sz) ∧ n ≤ m ∧ (m = n → if σ.g.live t then a = some ⟨σ.g.b t, 0, none⟩ ∧ cap = σ.g.cap t else cap = n)

/-- A value as it stands in a slot, of its cells: an aggregate whole, anything else is its one cell. -/
def Wrap : V → List Value → Value → Prop
  | .agg _, l, c => c = .agg l.toArray
  | _, l, c => l = [c]

mutual
/-- These cells hold this value. -/
def RepC (σ : St) : V → List Value → Prop
  | .junk, cs => ∃ c : Value, cs = [c] ∧ c.oneCell' = true
  | .int k n, cs => cs = [.int k n]
  | .bool b, cs => cs = [.bool b]
  | .str s, cs => cs = [.string ⟨s.toArray⟩]
  | .agg xs, cs => RepL σ xs cs
  | .sl sz xs tk, cs => ∃ a cap, cs = [.slice a xs.length cap] ∧ xs.length ≤ cap ∧ TokOk σ sz xs.length a cap tk ∧ (xs = [] ∨ ∃ b o, a = some ⟨b, o, none⟩ ∧ RepE σ sz xs b o)
  | .arr t p off len sz, cs => ∃ sh o l cap ad, shapeAt σ.H t = some sh ∧ sh.at p = some (.agg l) ∧ sh.off p = some o ∧ (∀ s ∈ l, s.size = sz) ∧ off + len ≤ l.length ∧ len ≤ cap ∧ (0 < len → ad = some ⟨σ.g.b t, o + off * sz, none⟩) ∧ cs = [.slice ad len cap]
  | .ptr t p, cs => ∃ sh o, shapeAt σ.H t = some sh ∧ sh.off p = some o ∧ cs = [.pointer (some ⟨σ.g.b t, o, none⟩)]
  | .nilp, cs => cs = [.pointer none]
  | .box x, cs => ∃ b o c, cs = [.pointer (some ⟨b, o, none⟩)] ∧ RepC σ x c ∧ σ.has b o c
  | .map t, cs => (∃ ks vs, σ.H[t]? = some (.map ks vs)) ∧ cs = [.map (some (σ.g.b t))]
  | .nilmap, cs => cs = [.map none]
  | .mapv ks vs, cs => ∃ b es clk, cs = [.map (some b)] ∧ σ.S b 0 ∧ σ.w.heap[b]? = some (.map es clk) ∧ RepVs σ ks (es.toList.map (·.key)) ∧ RepVs σ vs (es.toList.map (·.val))
  | .fn f first cap, cs => ∃ cf cc : Array Value, cs = [.func (.func f) cf cc] ∧ RepVs σ first cf.toList ∧ RepVs σ cap cc.toList
  | .nilfn, cs => cs = [.nilFunc]
  | .tup _, _ => False
  | .opt _ _, _ => False
def RepL (σ : St) : List V → List Value → Prop
  | [], cs => cs = []
  | x :: xs, cs => ∃ c d, cs = c ++ d ∧ RepC σ x c ∧ RepL σ xs d
/-- Settled elements, from a place on. -/
def RepE (σ : St) (sz : Nat) : List V → Nat → Nat → Prop
  | [], _, _ => True
  | x :: xs, b, o => (∃ c, c.length = sz ∧ RepC σ x c ∧ σ.has b o c) ∧ RepE σ sz xs b (o + sz)
/-- A list of values. -/
def RepVs (σ : St) : List V → List Value → Prop
  | [], cs => cs = []
  | x :: xs, cs => ∃ c d l, cs = c :: d ∧ RepC σ x l ∧ Wrap x l c ∧ RepVs σ xs d
end

/-- What stands in a slot. -/
def RepV (σ : St) : V → Value → Prop
  | .junk, _ => True
  | .opt g v, c => (g = true → RepV σ v c) ∧ (g = false → c = undef)
  | .tup vs, c => ∃ cs : Array Value, c = .tuple cs ∧ RepVs σ vs cs.toList
  | v, c => ∃ l, RepC σ v l ∧ Wrap v l c
end Go.Abs
end

section
namespace Go.Abs
open Go

theorem Sh.sizeL_map (xs : List V) : Sh.sizeL (V.shapeL xs) = (xs.map fun x => x.shape.size).sum := by
  induction xs with
  | nil => simp [V.shapeL, Sh.sizeL]
  | cons x xs ih => simp [V.shapeL, Sh.sizeL, ih]

mutual
theorem RepC.length {σ : St} : ∀ (v : V) (cs : List Value), RepC σ v cs → cs.length = v.shape.size
  | .junk, cs, h => by obtain ⟨c, rfl, _⟩ := h; simp [V.shape, Sh.size]
  | .int k n, cs, h => by simp only [RepC] at h; simp [h, V.shape, Sh.size]
  | .bool b, cs, h => by simp only [RepC] at h; simp [h, V.shape, Sh.size]
  | .str s, cs, h => by simp only [RepC] at h; simp [h, V.shape, Sh.size]
  | .agg xs, cs, h => by simp only [RepC] at h; simp only [V.shape, Sh.size]; exact RepL.length xs cs h
  | .sl sz xs tk, cs, h => by obtain ⟨a, cap, rfl, _⟩ := h; simp [V.shape, Sh.size]
  | .arr t p off len sz, cs, h => by obtain ⟨_, _, _, _, _, _, _, _, _, _, _, _, rfl⟩ := h; simp [V.shape, Sh.size]
  | .ptr t p, cs, h => by obtain ⟨_, _, _, _, rfl⟩ := h; simp [V.shape, Sh.size]
  | .nilp, cs, h => by simp only [RepC] at h; simp [h, V.shape, Sh.size]
  | .box x, cs, h => by obtain ⟨_, _, _, rfl, _⟩ := h; simp [V.shape, Sh.size]
  | .map t, cs, h => by obtain ⟨_, rfl⟩ := h; simp [V.shape, Sh.size]
  | .nilmap, cs, h => by simp only [RepC] at h; simp [h, V.shape, Sh.size]
  | .mapv ks vs, cs, h => by obtain ⟨_, _, _, rfl, _⟩ := h; simp [V.shape, Sh.size]
  | .fn f a b, cs, h => by obtain ⟨_, _, rfl, _⟩ := h; simp [V.shape, Sh.size]
  | .nilfn, cs, h => by simp only [RepC] at h; simp [h, V.shape, Sh.size]
  | .tup _, cs, h => by simp [RepC] at h
  | .opt _ _, cs, h => by simp [RepC] at h
theorem RepL.length {σ : St} : ∀ (xs : List V) (cs : List Value), RepL σ xs cs → cs.length = Sh.sizeL (V.shapeL xs)
  | [], cs, h => by simp only [RepL] at h; simp [h, V.shapeL, Sh.sizeL]
  | x :: xs, cs, h => by
    simp only [RepL] at h
    obtain ⟨c, d, rfl, h1, h2⟩ := h
    simp [V.shapeL, Sh.sizeL, RepC.length x c h1, RepL.length xs d h2]
end

/-- What is settled stays; the abstract blocks go on. -/
structure Le (σ σ' : St) : Prop where
  S : ∀ b o, σ.S b o → σ'.S b o
  cell : ∀ b o v, σ.S b o → σ.w.cell? ⟨b, o, none⟩ = some v → σ'.w.cell? ⟨b, o, none⟩ = some v
  map : ∀ b es c, σ.S b 0 → σ.w.heap[b]? = some (.map es c) → σ'.w.heap[b]? = some (.map es c)
  cells : ∀ t v, σ.H[t]? = some (.cell v) → ∃ v', σ'.H[t]? = some (.cell v') ∧ v'.shape = v.shape ∧ σ'.g.b t = σ.g.b t
  maps : ∀ t ks vs, σ.H[t]? = some (.map ks vs) → ∃ ks' vs', σ'.H[t]? = some (.map ks' vs') ∧ σ'.g.b t = σ.g.b t
  rows : ∀ t n sz, σ.H[t]? = some (.row n sz) → ∃ n', σ'.H[t]? = some (.row n' sz) ∧ (n < n' ∨ (n' = n ∧ σ'.g.b t = σ.g.b t ∧ σ'.g.cap t = σ.g.cap t ∧ σ'.g.live t = σ.g.live t))

theorem Le.refl (σ : St) : Le σ σ := ⟨fun _ _ h => h, fun _ _ _ _ h => h, fun _ _ _ _ h => h, fun _ v h => ⟨v, h, rfl, rfl⟩, fun _ ks vs h => ⟨ks, vs, h, rfl⟩, fun _ n _ h => ⟨n, h, .inr ⟨rfl, rfl, rfl, rfl⟩⟩⟩

theorem Le.trans {a b c : St} (h : Le a b) (k : Le b c) : Le a c where
  S x y hx := k.S x y (h.S x y hx)
  cell x y v hs hv := k.cell x y v (h.S x y hs) (h.cell x y v hs hv)
  map x es cl hs hv := k.map x es cl (h.S x 0 hs) (h.map x es cl hs hv)
  cells t v hv := by
    obtain ⟨v1, h1, h2, h3⟩ := h.cells t v hv
    obtain ⟨v2, k1, k2, k3⟩ := k.cells t v1 h1
    exact ⟨v2, k1, k2.trans h2, k3.trans h3⟩
  maps t ks vs hv := by
    obtain ⟨k1, v1, h1, h2⟩ := h.maps t ks vs hv
    obtain ⟨k2, v2, g1, g2⟩ := k.maps t k1 v1 h1
    exact ⟨k2, v2, g1, g2.trans h2⟩
  rows t n sz hv := by
    obtain ⟨n1, h1, h2⟩ := h.rows t n sz hv
    obtain ⟨n2, k1, k2⟩ := k.rows t n1 sz h1
    refine ⟨n2, k1, ?_⟩
    rcases h2 with h2 | ⟨rfl, a1, a2, a3⟩ <;> rcases k2 with k2 | ⟨rfl, b1, b2, b3⟩
    · exact .inl (by omega)
    · exact .inl h2
    · exact .inl k2
    · exact .inr ⟨rfl, b1.trans a1, b2.trans a2, b3.trans a3⟩

theorem Le.has {σ σ' : St} (h : Le σ σ') {b o : Nat} {cs : List Value} (hc : σ.has b o cs) : σ'.has b o cs :=
  fun k hk => ⟨h.S _ _ (hc k hk).1, h.cell _ _ _ (hc k hk).1 (hc k hk).2⟩

theorem Le.shapeAt {σ σ' : St} (h : Le σ σ') {t : Nat} {sh : Sh} (hs : shapeAt σ.H t = some sh) : shapeAt σ'.H t = some sh ∧ σ'.g.b t = σ.g.b t := by
  simp only [Abs.shapeAt] at hs ⊢
  split at hs
  · rename_i v hv
    obtain ⟨v', h1, h2, h3⟩ := h.cells t v hv
    cases hs
    exact ⟨by rw [h1]; simp [h2], h3⟩
  · cases hs

theorem Le.tok {σ σ' : St} (h : Le σ σ') {sz n cap : Nat} {a : Option Addr} {tk : Tok} (hk : TokOk σ sz n a cap tk) : TokOk σ' sz n a cap tk := by
  cases tk with
  | view => trivial
  | full => exact hk
  | row t =>
    obtain ⟨m, h1, h2, h3⟩ := hk
    obtain ⟨m', g1, g2⟩ := h.rows t m sz h1
    refine ⟨m', g1, ?_, ?_⟩
    · rcases g2 with g2 | ⟨rfl, _⟩ <;> omega
    · intro e
      rcases g2 with g2 | ⟨rfl, e1, e2, e3⟩
      · omega
      · rw [e1, e2, e3]; exact h3 e

theorem Wrap.unique {v : V} {l : List Value} {c d : Value} (h : Wrap v l c) (k : Wrap v l d) : c = d := by
  cases v <;> simp only [Wrap] at h k <;> (subst h; first | exact k.symm | simpa using k)

mutual
theorem RepC.mono {σ σ' : St} (h : Le σ σ') : ∀ (v : V) (cs : List Value), RepC σ v cs → RepC σ' v cs
  | .junk, cs, hr => by simp only [RepC] at hr ⊢; exact hr
  | .int k n, cs, hr => by simp only [RepC] at hr ⊢; exact hr
  | .bool b, cs, hr => by simp only [RepC] at hr ⊢; exact hr
  | .str s, cs, hr => by simp only [RepC] at hr ⊢; exact hr
  | .agg xs, cs, hr => by simp only [RepC] at hr ⊢; exact RepL.mono h xs cs hr
  | .sl sz xs tk, cs, hr => by
    simp only [RepC] at hr ⊢
    obtain ⟨a, cap, h1, h2, h3, h4⟩ := hr
    refine ⟨a, cap, h1, h2, h.tok h3, ?_⟩
    rcases h4 with h4 | ⟨b, o, h5, h6⟩
    · exact .inl h4
    · exact .inr ⟨b, o, h5, RepE.mono h sz xs b o h6⟩
  | .arr t p off len sz, cs, hr => by
    simp only [RepC] at hr ⊢
    obtain ⟨sh, o, l, cap, ad, h1, h2, h3, h4, h5, h6, h7, h8⟩ := hr
    exact ⟨sh, o, l, cap, ad, (h.shapeAt h1).1, h2, h3, h4, h5, h6, by rw [(h.shapeAt h1).2]; exact h7, h8⟩
  | .ptr t p, cs, hr => by
    simp only [RepC] at hr ⊢
    obtain ⟨sh, o, h1, h2, h3⟩ := hr
    exact ⟨sh, o, (h.shapeAt h1).1, h2, by rw [(h.shapeAt h1).2]; exact h3⟩
  | .nilp, cs, hr => by simp only [RepC] at hr ⊢; exact hr
  | .box x, cs, hr => by
    simp only [RepC] at hr ⊢
    obtain ⟨b, o, c, h1, h2, h3⟩ := hr
    exact ⟨b, o, c, h1, RepC.mono h x c h2, h.has h3⟩
  | .map t, cs, hr => by
    simp only [RepC] at hr ⊢
    obtain ⟨⟨ks, vs, h1⟩, h2⟩ := hr
    obtain ⟨ks', vs', h3, h4⟩ := h.maps t ks vs h1
    exact ⟨⟨ks', vs', h3⟩, by rw [h4]; exact h2⟩
  | .nilmap, cs, hr => by simp only [RepC] at hr ⊢; exact hr
  | .mapv ks vs, cs, hr => by
    simp only [RepC] at hr ⊢
    obtain ⟨b, es, clk, h1, h2, h3, h4, h5⟩ := hr
    exact ⟨b, es, clk, h1, h.S _ _ h2, h.map _ _ _ h2 h3, RepVs.mono h ks _ h4, RepVs.mono h vs _ h5⟩
  | .fn f a b, cs, hr => by
    simp only [RepC] at hr ⊢
    obtain ⟨cf, cc, h1, h2, h3⟩ := hr
    exact ⟨cf, cc, h1, RepVs.mono h a _ h2, RepVs.mono h b _ h3⟩
  | .nilfn, cs, hr => by simp only [RepC] at hr ⊢; exact hr
  | .tup _, cs, hr => by simp [RepC] at hr
  | .opt _ _, cs, hr => by simp [RepC] at hr
theorem RepL.mono {σ σ' : St} (h : Le σ σ') : ∀ (xs : List V) (cs : List Value), RepL σ xs cs → RepL σ' xs cs
  | [], cs, hr => by simp only [RepL] at hr ⊢; exact hr
  | x :: xs, cs, hr => by
    simp only [RepL] at hr ⊢
    obtain ⟨c, d, h1, h2, h3⟩ := hr
    exact ⟨c, d, h1, RepC.mono h x c h2, RepL.mono h xs d h3⟩
theorem RepE.mono {σ σ' : St} (h : Le σ σ') (sz : Nat) : ∀ (xs : List V) (b o : Nat), RepE σ sz xs b o → RepE σ' sz xs b o
  | [], b, o, hr => by simp [RepE]
  | x :: xs, b, o, hr => by
    simp only [RepE] at hr ⊢
    obtain ⟨⟨c, h1, h2, h3⟩, h4⟩ := hr
    exact ⟨⟨c, h1, RepC.mono h x c h2, h.has h3⟩, RepE.mono h sz xs b _ h4⟩
theorem RepVs.mono {σ σ' : St} (h : Le σ σ') : ∀ (xs : List V) (cs : List Value), RepVs σ xs cs → RepVs σ' xs cs
  | [], cs, hr => by simp only [RepVs] at hr ⊢; exact hr
  | x :: xs, cs, hr => by
    simp only [RepVs] at hr ⊢
    obtain ⟨c, d, l, h1, h2, h3, h4⟩ := hr
    exact ⟨c, d, l, h1, RepC.mono h x l h2, h3, RepVs.mono h xs d h4⟩
end

/-- What a slot holds, of a value that is no junk, no tuple and no option. -/
def V.plain : V → Bool
  | .junk | .tup _ | .opt _ _ => false
  | _ => true

theorem RepV.of_plain {σ : St} {v : V} {c : Value} (hp : v.plain = true) : RepV σ v c ↔ ∃ l, RepC σ v l ∧ Wrap v l c := by
  cases v <;> simp_all [RepV, V.plain]

theorem RepV.mono_plain {σ σ' : St} (h : Le σ σ') {v : V} {c : Value} (hp : v.plain = true) (hr : RepV σ v c) : RepV σ' v c :=
  (RepV.of_plain hp).2 (((RepV.of_plain hp).1 hr).imp fun l hl => ⟨RepC.mono h v l hl.1, hl.2⟩)

theorem RepV.mono {σ σ' : St} (h : Le σ σ') : ∀ (v : V) (c : Value), RepV σ v c → RepV σ' v c
  | .opt _ v, c, hr => ⟨fun hg => RepV.mono h v c (hr.1 hg), hr.2⟩
  | .junk, _, _ => trivial
  | .tup vs, _, hr => by obtain ⟨cs, h1, h2⟩ := hr; exact ⟨cs, h1, RepVs.mono h vs _ h2⟩
  | .int .., _, hr => RepV.mono_plain h rfl hr
  | .bool .., _, hr => RepV.mono_plain h rfl hr
  | .str .., _, hr => RepV.mono_plain h rfl hr
  | .agg .., _, hr => RepV.mono_plain h rfl hr
  | .sl .., _, hr => RepV.mono_plain h rfl hr
  | .arr .., _, hr => RepV.mono_plain h rfl hr
  | .ptr .., _, hr => RepV.mono_plain h rfl hr
  | .nilp, _, hr => RepV.mono_plain h rfl hr
  | .box .., _, hr => RepV.mono_plain h rfl hr
  | .map .., _, hr => RepV.mono_plain h rfl hr
  | .nilmap, _, hr => RepV.mono_plain h rfl hr
  | .mapv .., _, hr => RepV.mono_plain h rfl hr
  | .fn .., _, hr => RepV.mono_plain h rfl hr
  | .nilfn, _, hr => RepV.mono_plain h rfl hr
end Go.Abs
end

section
namespace Go.Abs
open Go

/-- An operand. -/
inductive Opd where
  | t (i : Nat)
  | c (v : V)
  | f (n : Nat)
  deriving Inhabited

/-- A plain type, by which values are compared. -/
inductive TD where
  | int (k : IntKind)
  | bool
  | str
  | arr (n : Nat) (e : TD)
  | struct (fs : List TD)
  deriving Inhabited

inductive COp where
  | mv (x : Opd)
  | pick (c a b : Opd)
  | bin (o : BinOp) (x y : Opd)
  | not (x : Opd)
  | un (o : UnOp) (x : Opd)
  | eqv (td : TD) (neg : Bool) (x y : Opd)
  | isNil (k : Nat) (neg : Bool) (x : Opd)
  | conv (k : IntKind) (x : Opd)
  | same (x : Opd)
  | b2s (x : Opd)
  | s2b (x : Opd)
  | fld (f off sz : Nat) (ag : Bool) (x : Opd)
  | faddr (f off : Nat) (x : Opd)
  | iaddr (sz : Nat) (x i : Opd)
  | iaddrA (n sz : Nat) (x i : Opd)
  | idxS (x i : Opd)
  | idxA (n sz : Nat) (ag : Bool) (x i : Opd)
  | load (sz : Nat) (ag : Bool) (a : Opd)
  | sliceS (x : Opd) (lo hi : Option Opd)
  | slice (sz : Nat) (x : Opd) (lo hi : Option Opd)
  | slice3 (sz : Nat) (x : Opd) (lo : Option Opd) (hi mx : Opd)
  | sliceA (n sz : Nat) (x : Opd) (lo hi : Option Opd)
  | len (k : Nat) (x : Opd)
  | extract (i : Nat) (x : Opd)
  | mkfn (f : Nat) (first cap : List Opd)
  | nilchk (x : Opd)
  | build (zs : List V) (parts : List (Nat × Opd))
  | lit (sz : Nat) (z : V) (len : Nat) (parts : List (Nat × Opd))
  | lookup (td : TD) (ok : Bool) (z : V) (m k : Opd)
  | mm (mx : Bool) (x y : Opd)
  | s2ap (n : Nat) (x : Opd)
  -- what follows makes or turns memory
  | alloc (z : V)
  | box (x : Opd)
  | store (sz : Nat) (a x : Opd)
  | append (sz bytes : Nat) (x y : Opd)
  | mkslA (sz bytes : Nat) (z : V) (n : Opd)
  | mkslR (sz bytes : Nat) (z : V) (n c : Opd)
  | mkmap
  | mapup (td : TD) (m k v : Opd)
  | delete (td : TD) (m k : Opd)
  | copyA (sz : Nat) (x y : Opd)
  | s2bR (x : Opd)
  | nilSl (neg : Bool) (x : Opd)
  | appendA (sz bytes : Nat) (z : V) (x y : Opd)
  | clear (sz : Nat) (z : V) (x : Opd)
  -- calls
  | call (f : Nat) (args : List Opd)
  | callv (x : Opd) (args : List Opd)
  deriving Inhabited

structure COper where
  dst : Option Nat
  op : COp
  grd : Option (Nat × Bool) := none
  deriving Inhabited

abbrev TM := List (Nat × V)

def lk : TM → Nat → V
  | [], _ => .junk
  | (i, v) :: r, j => if i = j then v else lk r j

def upd (ρ : Nat → V) (d : Option Nat) (v : V) : Nat → V := match d with
  | some d => fun j => if d = j then v else ρ j
  | none => ρ

def put (d : Option Nat) (v : V) (tm : TM) : TM := match d with
  | some d => (d, v) :: tm
  | none => tm

theorem lk_put (d : Option Nat) (v : V) (tm : TM) : lk (put d v tm) = upd (lk tm) d v := by
  cases d <;> rfl

def opv (ρ : Nat → V) : Opd → V
  | .t i => ρ i
  | .c v => v
  | .f n => .fn n [] []

/-- The guard under which a value is there, and the value. -/
def V.un : V → Bool × V
  | .opt g v => (g, v)
  | v => (true, v)

mutual
/-- A value as one who may not append to it sees it. -/
def V.vw : V → V
  | .sl sz xs _ => .sl sz xs .view
  | .agg xs => .agg (V.vwL xs)
  | v => v
def V.vwL : List V → List V
  | [] => []
  | x :: xs => x.vw :: V.vwL xs
end

/-- The elements of a slice. -/
def elems (H : HP) : V → Option (List V)
  | .sl _ xs _ => some xs
  | .arr t p off len _ => match H[t]? with
    | some (.cell v) => match v.at p with
      | some (.agg xs) => some ((xs.drop off).take len)
      | _ => none
    | _ => none
  | _ => none

def slSize : V → Nat
  | .sl sz _ _ => sz
  | .arr _ _ _ _ sz => sz
  | _ => 0

def byteV (b : UInt8) : V := .int .u8 (b.toNat : Int)
def bytesV (s : List UInt8) : List V := s.map byteV
def V.byte : V → UInt8
  | .int _ n => UInt8.ofNat n.toNat
  | _ => 0
def V.isByte : V → Bool
  | .int .u8 n => 0 ≤ n && n < 256
  | _ => false

def ibits (op : BinOp) (k : IntKind) (x y : Int) : Int :=
  let a := BitVec.ofInt k.bits x
  let b := BitVec.ofInt k.bits y
  match op with
  | .and => k.wrap (a &&& b).toNat
  | .or => k.wrap (a ||| b).toNat
  | .xor => k.wrap (a ^^^ b).toNat
  | _ => k.wrap (a &&& ~~~b).toNat

def shl (k : IntKind) (x y : Int) : Int := k.wrap (x * 2 ^ (min y.toNat k.bits))
def shr (k : IntKind) (x y : Int) : Int := x.fdiv (2 ^ (min y.toNat k.bits))

/-- Two whole numbers, two truths. -/
def binV (o : BinOp) : V → V → Option (Prop × V)
  | .int k a, .int k' b => match o with
    | .shl => some (0 ≤ b, .int k (shl k a b))
    | .shr => some (0 ≤ b, .int k (shr k a b))
    | .add => some (k = k', .int k (k.wrap (a + b)))
    | .sub => some (k = k', .int k (k.wrap (a - b)))
    | .mul => some (k = k', .int k (k.wrap (a * b)))
    | .quo => some (k = k' ∧ b ≠ 0, .int k (k.wrap (a.tdiv b)))
    | .rem => some (k = k' ∧ b ≠ 0, .int k (a.tmod b))
    | .and | .or | .xor | .andNot => some (k = k', .int k (ibits o k a b))
    | .eql => some (k = k', .bool (decide (a = b)))
    | .neq => some (k = k', .bool (!decide (a = b)))
    | .lss => some (k = k', .bool (decide (a < b)))
    | .leq => some (k = k', .bool (decide (a ≤ b)))
    | .gtr => some (k = k', .bool (decide (b < a)))
    | .geq => some (k = k', .bool (decide (b ≤ a)))
  | .str a, .str b => match o with
    | .add => some (((a.length + b.length : Nat) : Int) ≤ IntKind.i64.max, .str (a ++ b))
    | .eql => some (True, .bool (decide (a = b)))
    | .neq => some (True, .bool (!decide (a = b)))
    | .lss => some (True, .bool (Op.bytesLess a b))
    | .leq => some (True, .bool (Op.bytesLess a b || decide (a = b)))
    | .gtr => some (True, .bool (!(Op.bytesLess a b || decide (a = b))))
    | .geq => some (True, .bool (!Op.bytesLess a b))
    | _ => none
  | _, _ => none

def isAggV : V → Bool
  | .agg _ => true
  | _ => false

mutual
/-- Is a value of a plain type? -/
def TD.fits : TD → V → Bool
  | .int k, .int k' _ => k == k'
  | .bool, .bool _ => true
  | .str, .str _ => true
  | .arr n e, .agg xs => xs.length == n && TD.fitsAll e xs
  | .struct fs, .agg xs => TD.fitsL fs xs
  | _, _ => false
def TD.fitsAll (e : TD) : List V → Bool
  | [] => true
  | x :: xs => e.fits x && TD.fitsAll e xs
def TD.fitsL : List TD → List V → Bool
  | [], [] => true
  | f :: fs, x :: xs => f.fits x && TD.fitsL fs xs
  | _, _ => false
end

mutual
/-- Are two plain values one? -/
def V.eq : V → V → Bool
  | .int _ a, .int _ b => decide (a = b)
  | .bool a, .bool b => a == b
  | .str a, .str b => decide (a = b)
  | .agg xs, .agg ys => V.eqL xs ys
  | _, _ => false
def V.eqL : List V → List V → Bool
  | [], [] => true
  | x :: xs, y :: ys => x.eq y && V.eqL xs ys
  | _, _ => false
end

/-- The place of a key. -/
def findV (k : V) : List V → Nat → Option Nat
  | [], _ => none
  | x :: xs, i => if k.eq x then some i else findV k xs (i + 1)

def mapOf (H : HP) : V → Option (List V × List V)
  | .map t => match H[t]? with
    | some (.map ks vs) => some (ks, vs)
    | _ => none
  | .mapv ks vs => some (ks, vs)
  | .nilmap => some ([], [])
  | _ => none

def sel (g : Bool) (a b : V) : V := match a, b with
  | .bool x, .bool y => .bool (cond g x y)
  | .int k x, .int k' y => if k = k' then .int k (cond g x y) else cond g (.int k x) (.int k' y)
  | a, b => cond g a b

def setParts (r : Opd → V) : List V → List (Nat × Opd) → List V
  | zs, [] => zs
  | zs, (i, x) :: ps => setParts r (zs.set i (r x)) ps

def partsFit (r : Opd → V) (zs : List V) : List (Nat × Opd) → Prop
  | [] => True
  | (i, x) :: ps => (r x).plain = true ∧ (∃ z, zs[i]? = some z ∧ (r x).shape.size = z.shape.size) ∧ partsFit r zs ps

/-- A bound of a piece. -/
def bnd (r : Opd → V) (d : Int) : Option Opd → Option Int
  | none => some d
  | some o => match r o with
    | .int _ n => some n
    | _ => none

/-- A slice's piece that is as full as the slice. -/
def pieceTok (hi : Option Opd) : Tok → Tok
  | .full => match hi with | none => .full | some _ => .view
  | _ => .view

/-- What a pure operation asks, and tells. -/
def evp (o : COp) (r : Opd → V) (H : HP) : Option (Prop × V) :=
  match o with
  | .mv x => some (True, r x)
  | .same x => match r x with
    | .str s => some (True, .str s)
    | _ => none
  | .bin o x y => binV o (r x) (r y)
  | .not x => match r x with
    | .bool b => some (True, .bool (!b))
    | _ => none
  | .un o x => match o, r x with
    | .neg, .int k n => some (True, .int k (k.wrap (0 - n)))
    | .xor, .int k n => some (True, .int k (ibits .xor k (if k.signed then -1 else k.max) n))
    | _, _ => none
  | .eqv td neg x y => some (td.fits (r x) = true ∧ td.fits (r y) = true, .bool (if neg then !(r x).eq (r y) else (r x).eq (r y)))
  | .isNil k neg x => match k, r x with
    | 0, .nilp | 1, .nilmap | 2, .nilfn => some (True, .bool (!neg))
    | 0, .ptr _ _ | 0, .box _ | 1, .map _ | 1, .mapv _ _ | 2, .fn _ _ _ => some (True, .bool neg)
    | _, _ => none
  | .conv k x => match r x with
    | .int _ n => some (True, .int k (k.wrap n))
    | _ => none
  | .b2s x => match elems H (r x) with
    | some xs => some (slSize (r x) = 1 ∧ (∀ x ∈ xs, V.isByte x = true), .str (xs.map V.byte))
    | none => none
  | .s2b x => match r x with
    | .str s => some (True, .sl 1 (bytesV s) .view)
    | _ => none
  | .fld f off sz ag x => match r x with
    | .agg xs => match xs[f]? with
      | some y => some (Sh.sizeL (V.shapeL (xs.take f)) = off ∧ y.shape.size = sz ∧ isAggV y = ag, y)
      | none => none
    | _ => none
  | .faddr f off x => match r x with
    | .ptr t p => match H[t]? with
      | some (.cell v) => match v.at p with
        | some (.agg xs) => some (f < xs.length ∧ Sh.sizeL (V.shapeL (xs.take f)) = off, .ptr t (p ++ [f]))
        | _ => none
      | _ => none
    | .box (.agg xs) => match xs[f]? with
      | some y => some (Sh.sizeL (V.shapeL (xs.take f)) = off, .box y)
      | none => none
    | _ => none
  | .iaddr sz x i => match r x, r i with
    | .sl sz' xs _, .int _ n => some (sz' = sz ∧ 0 ≤ n ∧ n < xs.length, .box (xs.getD n.toNat .junk))
    | .arr t p off len sz', .int _ n => some (sz' = sz ∧ 0 ≤ n ∧ n < len, .ptr t (p ++ [off + n.toNat]))
    | _, _ => none
  | .iaddrA n sz x i => match r x, r i with
    | .ptr t p, .int _ m => match H[t]? with
      | some (.cell v) => match v.at p with
        | some (.agg xs) => some (xs.length = n ∧ (∀ x ∈ xs, x.shape.size = sz) ∧ 0 ≤ m ∧ m < n, .ptr t (p ++ [m.toNat]))
        | _ => none
      | _ => none
    | .box (.agg xs), .int _ m => some (xs.length = n ∧ (∀ x ∈ xs, x.shape.size = sz) ∧ 0 ≤ m ∧ m < n, .box (xs.getD m.toNat .junk))
    | _, _ => none
  | .idxS x i => match r x, r i with
    | .str s, .int _ n => some (0 ≤ n ∧ n < s.length, byteV (s.getD n.toNat 0))
    | _, _ => none
  | .idxA n sz ag x i => match r x, r i with
    | .agg xs, .int _ m => some (xs.length = n ∧ (∀ x ∈ xs, x.shape.size = sz ∧ isAggV x = ag) ∧ 0 ≤ m ∧ m < n, xs.getD m.toNat .junk)
    | _, _ => none
  | .load sz ag a => match r a with
    | .ptr t p => match H[t]? with
      | some (.cell v) => match v.at p with
        | some y => some (y.shape.size = sz ∧ isAggV y = ag, y)
        | none => none
      | _ => none
    | .box y => some (y.shape.size = sz ∧ isAggV y = ag, y)
    | _ => none
  | .sliceS x lo hi => match r x with
    | .str s => match bnd r 0 lo, bnd r s.length hi with
      | some l, some h => some (0 ≤ l ∧ l ≤ h ∧ h ≤ s.length, .str ((s.take h.toNat).drop l.toNat))
      | _, _ => none
    | _ => none
  | .slice sz x lo hi => match r x with
    | .sl sz' xs tk => match bnd r 0 lo, bnd r xs.length hi with
      | some l, some h => some (sz' = sz ∧ 0 ≤ l ∧ l ≤ h ∧ h ≤ xs.length, .sl sz ((xs.take h.toNat).drop l.toNat) (pieceTok hi tk))
      | _, _ => none
    | .arr t p off len sz' => match bnd r 0 lo, bnd r len hi with
      | some l, some h => some (sz' = sz ∧ 0 ≤ l ∧ l ≤ h ∧ h ≤ len, .arr t p (off + l.toNat) (h.toNat - l.toNat) sz)
      | _, _ => none
    | _ => none
  | .slice3 sz x lo hi mx => match r x with
    | .sl sz' xs _ => match bnd r 0 lo, r hi, r mx with
      | some l, .int _ h, .int _ m => some (sz' = sz ∧ 0 ≤ l ∧ l ≤ h ∧ h = m ∧ h ≤ xs.length, .sl sz ((xs.take h.toNat).drop l.toNat) .full)
      | _, _, _ => none
    | _ => none
  | .sliceA n sz x lo hi => match r x with
    | .ptr t p => match H[t]? with
      | some (.cell v) => match v.at p with
        | some (.agg xs) => match bnd r 0 lo, bnd r n hi with
          | some l, some h => some (xs.length = n ∧ (∀ x ∈ xs, x.shape.size = sz) ∧ 0 ≤ l ∧ l ≤ h ∧ h ≤ n, .arr t p l.toNat (h.toNat - l.toNat) sz)
          | _, _ => none
        | _ => none
      | _ => none
    | _ => none
  | .len k x => match k, r x with
    | 0, .str s => some (True, .int .i64 s.length)
    | 1, .sl _ xs _ => some (True, .int .i64 xs.length)
    | 1, .arr _ _ _ len _ => some (True, .int .i64 len)
    | 2, v => match mapOf H v with
      | some (ks, _) => some (True, .int .i64 ks.length)
      | none => none
    | _, _ => none
  | .extract i x => match r x with
    | .tup vs => match vs[i]? with
      | some v => some (True, v)
      | none => none
    | _ => none
  | .mkfn f first cap => some ((∀ v ∈ first.map r, v.plain = true) ∧ (∀ v ∈ cap.map r, v.plain = true), .fn f (first.map r) (cap.map r))
  | .nilchk x => match r x with
    | .ptr t p => some (True, .ptr t p)
    | .box y => some (True, .box y)
    | .fn f a b => some (True, .fn f a b)
    | _ => none
  | .build zs parts => some (partsFit r zs parts, .agg (setParts r zs parts))
  | .lit sz z len parts => some (z.shape.size = sz ∧ partsFit r (List.replicate len z) parts, .sl sz (setParts r (List.replicate len z) parts) .full)
  | .lookup td ok z m k => match mapOf H (r m) with
    | some (ks, vs) => some (td.fits (r k) = true ∧ (∀ x ∈ ks, td.fits x = true) ∧ ks.length = vs.length ∧ (∀ x ∈ vs, x.plain = true),
        if ok then .tup [match findV (r k) ks 0 with | some i => vs.getD i .junk | none => z, .bool (findV (r k) ks 0).isSome] else match findV (r k) ks 0 with | some i => vs.getD i .junk | none => z)
    | none => none
  | .mm mx x y => match r x, r y with
    | .int k a, .int k' b => some (k = k', .int k (if mx then (if b > a then b else a) else (if b < a then b else a)))
    | _, _ => none
  | .s2ap n x => match r x with
    | .sl _ xs _ => some (n ≤ xs.length ∧ 0 < n, .box (.agg (xs.take n)))
    | _ => none
  | _ => none
end Go.Abs
end
