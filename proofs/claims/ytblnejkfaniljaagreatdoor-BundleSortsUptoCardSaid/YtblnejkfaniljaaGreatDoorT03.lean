/-
  Abstract code against the model's: pure operations. Abstract code against the model's: the checks of pure operations. Abstract code against the model's: pure operations, the second half.
  Conditions: those that stand ahead of each theorem; no more.
-/
import Derived.Laws.Cells
import Derived.Test.YtblnejkfaniljaaGreatDoorT02

section
namespace Go.Abs
open Go

section reps
variable {σ : St} {X : Value}
theorem repV_int {k : IntKind} {n : Int} : RepV σ (.int k n) X ↔ X = .int k n := by
  simp only [RepV, RepC, Wrap]; exact ⟨fun ⟨l, h1, h2⟩ => by rw [h1] at h2; simpa using h2.symm, fun h => ⟨_, rfl, by rw [h]⟩⟩
theorem repV_bool {b : Bool} : RepV σ (.bool b) X ↔ X = .bool b := by
  simp only [RepV, RepC, Wrap]; exact ⟨fun ⟨l, h1, h2⟩ => by rw [h1] at h2; simpa using h2.symm, fun h => ⟨_, rfl, by rw [h]⟩⟩
theorem repV_str {s : List UInt8} : RepV σ (.str s) X ↔ X = .string ⟨s.toArray⟩ := by
  simp only [RepV, RepC, Wrap]; exact ⟨fun ⟨l, h1, h2⟩ => by rw [h1] at h2; simpa using h2.symm, fun h => ⟨_, rfl, by rw [h]⟩⟩
theorem repV_agg {xs : List V} : RepV σ (.agg xs) X ↔ ∃ cs : List Value, X = .agg cs.toArray ∧ RepL σ xs cs := by
  simp only [RepV, RepC, Wrap]; exact ⟨fun ⟨l, h1, h2⟩ => ⟨l, h2, h1⟩, fun ⟨l, h1, h2⟩ => ⟨l, h2, h1⟩⟩
theorem repV_sl {sz : Nat} {xs : List V} {tk : Tok} : RepV σ (.sl sz xs tk) X ↔ ∃ a cap, X = .slice a xs.length cap ∧ xs.length ≤ cap ∧ TokOk σ sz xs.length a cap tk ∧ (xs = [] ∨ ∃ b o, a = some ⟨b, o, none⟩ ∧ RepE σ sz xs b o) := by
  simp only [RepV, RepC, Wrap]
  exact ⟨fun ⟨l, ⟨a, cap, h1, h2⟩, h3⟩ => ⟨a, cap, by rw [h1] at h3; simpa using h3.symm, h2⟩, fun ⟨a, cap, h1, h2⟩ => ⟨_, ⟨a, cap, rfl, h2⟩, by rw [h1]⟩⟩
theorem repV_arr {t : Nat} {p : List Nat} {off len sz : Nat} : RepV σ (.arr t p off len sz) X ↔ ∃ sh o l cap ad, shapeAt σ.H t = some sh ∧ sh.at p = some (.agg l) ∧ sh.off p = some o ∧ (∀ s ∈ l, s.size = sz) ∧ off + len ≤ l.length ∧ len ≤ cap ∧ (0 < len → ad = some ⟨σ.g.b t, o + off * sz, none⟩) ∧ X = .slice ad len cap := by
  simp only [RepV, RepC, Wrap]
  exact ⟨fun ⟨l, ⟨sh, o, l', cap, ad, h1, h2, h3, h4, h5, h6, h7, h9⟩, h8⟩ => ⟨sh, o, l', cap, ad, h1, h2, h3, h4, h5, h6, h7, by rw [h9] at h8; simpa using h8.symm⟩,
    fun ⟨sh, o, l', cap, ad, h1, h2, h3, h4, h5, h6, h7, h8⟩ => ⟨_, ⟨sh, o, l', cap, ad, h1, h2, h3, h4, h5, h6, h7, rfl⟩, by rw [h8]⟩⟩
theorem repV_ptr {t : Nat} {p : List Nat} : RepV σ (.ptr t p) X ↔ ∃ sh o, shapeAt σ.H t = some sh ∧ sh.off p = some o ∧ X = .pointer (some ⟨σ.g.b t, o, none⟩) := by
  simp only [RepV, RepC, Wrap]
  exact ⟨fun ⟨l, ⟨sh, o, h1, h2, h3⟩, h4⟩ => ⟨sh, o, h1, h2, by rw [h3] at h4; simpa using h4.symm⟩, fun ⟨sh, o, h1, h2, h3⟩ => ⟨_, ⟨sh, o, h1, h2, rfl⟩, by rw [h3]⟩⟩
theorem repV_nilp : RepV σ .nilp X ↔ X = .pointer none := by
  simp only [RepV, RepC, Wrap]; exact ⟨fun ⟨l, h1, h2⟩ => by rw [h1] at h2; simpa using h2.symm, fun h => ⟨_, rfl, by rw [h]⟩⟩
theorem repV_nilmap : RepV σ .nilmap X ↔ X = .map none := by
  simp only [RepV, RepC, Wrap]; exact ⟨fun ⟨l, h1, h2⟩ => by rw [h1] at h2; simpa using h2.symm, fun h => ⟨_, rfl, by rw [h]⟩⟩
theorem repV_nilfn : RepV σ .nilfn X ↔ X = .nilFunc := by
  simp only [RepV, RepC, Wrap]; exact ⟨fun ⟨l, h1, h2⟩ => by rw [h1] at h2; simpa using h2.symm, fun h => ⟨_, rfl, by rw [h]⟩⟩
theorem repV_box {x : V} : RepV σ (.box x) X ↔ ∃ b o cs, X = .pointer (some ⟨b, o, none⟩) ∧ RepC σ x cs ∧ σ.has b o cs := by
  simp only [RepV, RepC, Wrap]
  exact ⟨fun ⟨l, ⟨b, o, c, h1, h2⟩, h3⟩ => ⟨b, o, c, by rw [h1] at h3; simpa using h3.symm, h2⟩, fun ⟨b, o, c, h1, h2⟩ => ⟨_, ⟨b, o, c, rfl, h2⟩, by rw [h1]⟩⟩
theorem repV_map {t : Nat} : RepV σ (.map t) X ↔ (∃ ks vs, σ.H[t]? = some (.map ks vs)) ∧ X = .map (some (σ.g.b t)) := by
  simp only [RepV, RepC, Wrap]
  exact ⟨fun ⟨l, ⟨h1, h2⟩, h3⟩ => ⟨h1, by rw [h2] at h3; simpa using h3.symm⟩, fun ⟨h1, h2⟩ => ⟨_, ⟨h1, rfl⟩, by rw [h2]⟩⟩
theorem repV_mapv {ks vs : List V} : RepV σ (.mapv ks vs) X ↔ ∃ b es clk, X = .map (some b) ∧ σ.S b 0 ∧ σ.w.heap[b]? = some (.map es clk) ∧ RepVs σ ks (es.toList.map (·.key)) ∧ RepVs σ vs (es.toList.map (·.val)) := by
  simp only [RepV, RepC, Wrap]
  exact ⟨fun ⟨l, ⟨b, es, clk, h1, h2⟩, h3⟩ => ⟨b, es, clk, by rw [h1] at h3; simpa using h3.symm, h2⟩, fun ⟨b, es, clk, h1, h2⟩ => ⟨_, ⟨b, es, clk, rfl, h2⟩, by rw [h1]⟩⟩
theorem repV_fn {f : Nat} {a b : List V} : RepV σ (.fn f a b) X ↔ ∃ cf cc : Array Value, X = .func (.func f) cf cc ∧ RepVs σ a cf.toList ∧ RepVs σ b cc.toList := by
  simp only [RepV, RepC, Wrap]
  exact ⟨fun ⟨l, ⟨cf, cc, h1, h2⟩, h3⟩ => ⟨cf, cc, by rw [h1] at h3; simpa using h3.symm, h2⟩, fun ⟨cf, cc, h1, h2⟩ => ⟨_, ⟨cf, cc, rfl, h2⟩, by rw [h1]⟩⟩
theorem repV_tup {vs : List V} : RepV σ (.tup vs) X ↔ ∃ cs : Array Value, X = .tuple cs ∧ RepVs σ vs cs.toList := Iff.rfl
end reps

/-- An operation tells a value and leaves the abstract heap alone. -/
def Yields (P : Program) (e : Sem Next) (σ : St) (v : V) : Prop := ∃ cv σ', e.run P σ.w = .ok (.value cv) σ'.w ∧ σ'.H = σ.H ∧ Inv σ' ∧ RepV σ' v cv ∧ Tr σ.H.length σ σ'

theorem Yields.same {P : Program} {e : Sem Next} {σ : St} {v : V} {cv : Value} (I : Inv σ) (h : e.run P σ.w = .ok (.value cv) σ.w) (hr : RepV σ v cv) : Yields P e σ v :=
  ⟨cv, σ, h, rfl, I, hr, Tr.refl _ _⟩

theorem RepL.get {σ : St} : ∀ {xs : List V} {cs : List Value} {i : Nat} {x : V}, RepL σ xs cs → xs[i]? = some x → RepC σ x ((cs.drop (Sh.sizeL (V.shapeL (xs.take i)))).take x.shape.size)
  | [], _, _, _, _, h => by simp at h
  | y :: ys, cs, 0, x, hr, h => by
    obtain ⟨c, d, rfl, h1, h2⟩ := hr
    have : y = x := by simpa using h
    subst this
    simpa [V.shapeL, Sh.sizeL, ← RepC.length y c h1] using h1
  | y :: ys, cs, i + 1, x, hr, h => by
    obtain ⟨c, d, rfl, h1, h2⟩ := hr
    have h3 := RepL.get h2 (by simpa using h : ys[i]? = some x)
    simp only [List.take_succ_cons, V.shapeL, Sh.sizeL]
    rw [List.drop_append, List.drop_eq_nil_of_le (by rw [RepC.length y c h1]; omega)]
    simpa [RepC.length y c h1] using h3

theorem size_one {x : V} (h : isAggV x = false) : x.shape.size = 1 := by
  cases x <;> first | rfl | cases h

theorem RepC.repV {σ : St} {x : V} {l : List Value} {c : Value} (h : RepC σ x l) (hw : Wrap x l c) : RepV σ x c := by
  cases x with
  | junk => trivial
  | tup => exact h.elim
  | opt => exact h.elim
  | _ => exact ⟨l, h, hw⟩

theorem RepV.repC {σ : St} {x : V} {c : Value} (hp : x.plain = true) (h : RepV σ x c) : RepC σ x c.cells.toList := by
  obtain ⟨l, h1, h2⟩ := (RepV.of_plain hp).1 h
  cases ha : isAggV x with
  | true => rw [wrap_agg ha] at h2; subst h2; simpa [Value.cells] using h1
  | false =>
    rw [wrap_one ha] at h2
    subst h2
    cases c with
    | agg cs =>
      exfalso
      cases x <;> simp_all [RepC, isAggV, V.plain]
      all_goals first | (obtain ⟨_, _, h, _⟩ := h1; cases h; done) | (obtain ⟨_, _, _, h, _⟩ := h1; cases h; done) | skip
    | _ => simpa [Value.cells] using h1

/-- A piece of cells read as a value of a type is the part. -/
theorem part_rep {P : Program} {σ : St} {t : TypeId} {sz off : Nat} {ag : Bool} {x : V} {cs : List Value} (h1 : szIs P t sz = true) (h2 : aggIs P t ag = true)
    (hr : RepC σ x ((cs.drop off).take sz)) (hsz : x.shape.size = sz) (hag : isAggV x = ag) : ∃ c, (∀ w, (part t cs.toArray off).run P w = .ok c w) ∧ RepV σ x c := by
  have hl := RepC.length x _ hr
  cases ag with
  | true =>
    refine ⟨.agg ((cs.drop off).take sz).toArray, fun w => ?_, hr.repV ((wrap_agg hag).2 rfl)⟩
    simp [part, run_agg h2, run_size h1]
  | false =>
    have h1' := size_one hag
    rw [h1'] at hsz
    subst hsz
    rw [h1'] at hl
    obtain ⟨c, hc⟩ : ∃ c, (cs.drop off).take 1 = [c] := by
      match hh : (cs.drop off).take 1, hl with
      | [c], _ => exact ⟨c, rfl⟩
    have hget : cs[off]? = some c := by
      have : (cs.drop off)[0]? = some c := by
        have := congrArg (·[0]?) hc
        simpa [List.getElem?_take] using this
      simpa using this
    refine ⟨c, fun w => ?_, hr.repV ((wrap_one hag).2 hc)⟩
    simp [part, run_agg h2, hget]
end Go.Abs
end

section
namespace Go.Abs
open Go

def TD.isAgg : TD → Bool
  | .arr _ _ | .struct _ => true
  | _ => false

mutual
def TD.size : TD → Nat
  | .arr n e => n * e.size
  | .struct fs => TD.sizeL fs
  | _ => 1
def TD.sizeL : List TD → Nat
  | [] => 0
  | f :: fs => f.size + TD.sizeL fs
end

mutual
/-- Is a type of the program this plain type? -/
def tdChk (P : Program) : TypeId → TD → Bool
  | t, .int k => isDesc P t fun | .int k' => k == k' | _ => false
  | t, .bool => isDesc P t fun | .bool => true | _ => false
  | t, .str => isDesc P t fun | .string => true | _ => false
  | t, .arr n e => match P.underlying t with
    | some (.array m u) => m == n && szIs P u e.size && aggIs P u e.isAgg && tdChk P u e
    | _ => false
  | t, .struct fs => match P.underlying t with
    | some (.struct gs) => !P.stoodInHeld t && tdChkL P 0 gs.toList fs
    | _ => false
def tdChkL (P : Program) : Nat → List Field → List TD → Bool
  | _, [], [] => true
  | off, g :: gs, f :: fs => g.name != "_" && g.offset == off && szIs P g.type f.size && aggIs P g.type f.isAgg && tdChk P g.type f && tdChkL P (off + f.size) gs fs
  | _, _, _ => false
end

def fieldIs (P : Program) (t : TypeId) (f off sz : Nat) (ag : Bool) : Bool := match P.underlying t with
  | some (.struct fs) => match fs[f]? with
    | some g => g.offset == off && szIs P g.type sz && aggIs P g.type ag
    | none => false
  | _ => false

def fieldAt (P : Program) (t : TypeId) (f off : Nat) : Bool := match P.underlying t with
  | some (.struct fs) => match fs[f]? with
    | some g => g.offset == off && (match P.info? g.type with | some i => i.size != 0 | none => false)
    | none => false
  | _ => false

def sliceOf (P : Program) (t : TypeId) (sz : Nat) : Bool := match P.underlying t with
  | some (.slice e) => szIs P e sz
  | _ => false
def arrayOf (P : Program) (t : TypeId) (n sz : Nat) : Bool := match P.underlying t with
  | some (.array m e) => m == n && szIs P e sz
  | _ => false
def arrayOfA (P : Program) (t : TypeId) (n sz : Nat) (ag : Bool) : Bool := match P.underlying t with
  | some (.array m e) => m == n && szIs P e sz && aggIs P e ag
  | _ => false
def bytesType (P : Program) (t : TypeId) : Bool := match P.underlying t with
  | some (.slice e) => isDesc P e fun | .int .u8 => true | _ => false
  | _ => false
def strType (P : Program) (t : TypeId) : Bool := isDesc P t fun | .string => true | _ => false
def intType (P : Program) (t : TypeId) (k : IntKind) : Bool := isDesc P t fun | .int k' => k == k' | _ => false
def nilKind (P : Program) (t : TypeId) (k : Nat) : Operand → Bool
  | .const (.pointer none) => k == 0 && isDesc P t fun | .pointer _ => true | _ => false
  | .const (.map none) => k == 1 && isDesc P t fun | .map _ _ => true | _ => false
  | .const .nilFunc => k == 2 && isDesc P t fun | .func _ _ _ => true | _ => false
  | _ => false

/-- Where a struct's fields lie. -/
def fieldsAt (P : Program) : Nat → List Field → List V → Bool
  | _, [], [] => true
  | off, g :: gs, z :: zs => g.offset == off && szIs P g.type z.shape.size && fieldsAt P (off + z.shape.size) gs zs
  | _, _, _ => false

def aggParts (P : Program) (t : TypeId) (zs : List V) : Bool := match P.underlying t with
  | some (.struct fs) => fieldsAt P 0 fs.toList zs
  | some (.array _ e) => match zs with
    | [] => false
    | z :: _ => szIs P e z.shape.size && zs.all fun y => y.shape.size == z.shape.size
  | _ => false

def mapOfT (P : Program) (t : TypeId) (td : TD) : Option TypeId := match P.underlying t with
  | some (.map k e) => if tdChk P k td then some e else none
  | _ => none

/-- Does a pure operation stand for this one? -/
def chkPure (P : Program) (o : Op) : COp → Bool
  | .mv x => match o with
    | .move y | .assign y => chkOpd y x
    | _ => false
  | .same x => match o with
    | .convert s d y => chkOpd y x && (P.underlying s).isSome && strType P d
    | _ => false
  | .bin op x y => match o with
    | .binOp op' _ a b _ => op == op' && chkOpd a x && chkOpd b y
    | _ => false
  | .not x => match o with
    | .unOp .not _ a => chkOpd a x
    | _ => false
  | .un op x => match o with
    | .unOp op' _ a => op == op' && chkOpd a x
    | _ => false
  | .eqv td neg x y => match o with
    | .binOp op t a b _ => op == (if neg then .neq else .eql) && chkOpd a x && chkOpd b y && tdChk P t td && !P.eqGuardType P.depth t
    | _ => false
  | .isNil k neg x => match o with
    | .binOp op t a b _ => op == (if neg then .neq else .eql) && chkOpd a x && nilKind P t k b
    | _ => false
  | .conv k x => match o with
    | .convert s d a => chkOpd a x && (P.underlying s).isSome && intType P d k
    | _ => false
  | .b2s x => match o with
    | .convert s d a => chkOpd a x && bytesType P s && strType P d
    | _ => false
  | .s2b x => match o with
    | .convert s d a => chkOpd a x && (P.underlying s).isSome && bytesType P d
    | _ => false
  | .fld f off sz ag x => match o with
    | .field t a g => g == f && chkOpd a x && fieldIs P t f off sz ag
    | _ => false
  | .faddr f off x => match o with
    | .fieldAddr t a g => g == f && chkOpd a x && fieldAt P t f off
    | _ => false
  | .iaddr sz x i => match o with
    | .indexAddr t a b => chkOpd a x && chkOpd b i && sliceOf P t sz
    | _ => false
  | .iaddrA n sz x i => match o with
    | .indexAddr t a b => chkOpd a x && chkOpd b i && arrayOf P t n sz
    | _ => false
  | .idxS x i => match o with
    | .index t a b => chkOpd a x && chkOpd b i && strType P t
    | _ => false
  | .idxA n sz ag x i => match o with
    | .index t a b => chkOpd a x && chkOpd b i && arrayOfA P t n sz ag
    | _ => false
  | .load sz ag a => match o with
    | .load t b => chkOpd b a && szIs P t sz && aggIs P t ag
    | _ => false
  | .sliceS x lo hi => match o with
    | .slice t a l h none => chkOpd a x && chkOpt l lo && chkOpt h hi && strType P t
    | _ => false
  | .slice sz x lo hi => match o with
    | .slice t a l h none => chkOpd a x && chkOpt l lo && chkOpt h hi && sliceOf P t sz
    | _ => false
  | .slice3 sz x lo hi mx => match o with
    | .slice t a l (some h) (some m) => chkOpd a x && chkOpt l lo && chkOpd h hi && chkOpd m mx && sliceOf P t sz
    | _ => false
  | .sliceA n sz x lo hi => match o with
    | .slice t a l h none => chkOpd a x && chkOpt l lo && chkOpt h hi && arrayOf P t n sz
    | _ => false
  | .len k x => match o with
    | .call { callee := .builtin .len, args, argTypes } => match args.toList, argTypes.toList with
      | [a], [t] => chkOpd a x && isDesc P t fun d => match k, d with | 0, .string => true | 1, .slice _ => true | 2, .map _ _ => true | _, _ => false
      | _, _ => false
    | _ => false
  | .extract i x => match o with
    | .extract a j => i == j && chkOpd a x
    | _ => false
  | .mkfn f first cap => match o with
    | .makeFunc (.func g) a b => f == g && chkOpds a.toList first && chkOpds b.toList cap
    | _ => false
  | .nilchk x => match o with
    | .nilCheck a => chkOpd a x
    | _ => false
  | .build zs parts => match o with
    | .build t ps => zeroIs P t (.agg zs) && aggParts P t zs && chkParts ps.toList parts
    | _ => false
  | .lit sz z len parts => match o with
    | .buildSlice t n ps => n == len && chkParts ps.toList parts && decide (0 < sz) && decide (len * sz ≤ 2 ^ 24) && (match P.underlying t with | some (.slice e) => szIs P e sz && zeroIs P e z | _ => false)
    | _ => false
  | .lookup td ok z m k => match o with
    | .lookup t a b ok' => ok == ok' && chkOpd a m && chkOpd b k && (match mapOfT P t td with | some e => zeroIs P e z | none => false)
    | _ => false
  | .s2ap n x => match o with
    | .sliceToArrayPointer t a => chkOpd a x && (match P.underlying t with | some (.array m _) => m == n | _ => false)
    | _ => false
  | .mm mx x y => match o with
    | .call { callee := .builtin b, args, argTypes := _ } => b == (if mx then .max else .min) && (match args.toList with | [p, q] => chkOpd p x && chkOpd q y | _ => false)
    | _ => false
  | _ => false

section
variable {P : Program} {σ : St} {ρ : Nat → V} {a : Act} {o : Oper} {v : V} {c : Prop}

theorem isDesc_spec {t : TypeId} {d : TypeDesc → Bool} (h : isDesc P t d = true) : ∃ x, P.underlying t = some x ∧ d x = true := by
  unfold isDesc at h
  split at h
  · rename_i x hx; exact ⟨x, hx, h⟩
  · cases h

theorem strType_spec {t : TypeId} (h : strType P t = true) : P.underlying t = some .string := by
  obtain ⟨x, h1, h2⟩ := isDesc_spec h
  cases x <;> simp at h2
  exact h1

theorem intType_spec {t : TypeId} {k : IntKind} (h : intType P t k = true) : P.underlying t = some (.int k) := by
  obtain ⟨x, h1, h2⟩ := isDesc_spec h
  cases x <;> simp at h2
  rw [h1, h2]

theorem sliceOf_spec {t : TypeId} {sz : Nat} (h : sliceOf P t sz = true) : ∃ e, P.underlying t = some (.slice e) ∧ szIs P e sz = true := by
  unfold sliceOf at h
  split at h
  · rename_i e he; exact ⟨e, he, h⟩
  · cases h

theorem arrayOf_spec {t : TypeId} {n sz : Nat} (h : arrayOf P t n sz = true) : ∃ e, P.underlying t = some (.array n e) ∧ szIs P e sz = true := by
  unfold arrayOf at h
  split at h
  · rename_i m e he
    simp only [Bool.and_eq_true, beq_iff_eq] at h
    rw [h.1] at he; exact ⟨e, he, h.2⟩
  · cases h

theorem sound_mv {x : Opd} (hk : chkPure P o.op (.mv x) = true) (I : Inv σ) (hf : RepF σ ρ a) (ht : there ρ [x] = true) : Yields P (execOp a.eval o) σ (val ρ x) := by
  rw [there_cons] at ht
  cases ho : o.op <;> simp only [ho, chkPure] at hk <;> first | (cases hk; done) | skip
  all_goals exact .same I (by simp [execOp, ho]) (opd_rep hf hk ht.1)

theorem beq_dec {α : Type} [DecidableEq α] [BEq α] [LawfulBEq α] (p q : α) : (p == q) = decide (p = q) := Bool.eq_iff_iff.2 (by simp)

theorem run_binOp_int (op : BinOp) (t : TypeId) (x y : Operand) (k k' : IntKind) (p q : Int) (w : World) {c : Prop} {v : V} (he : binV op (.int k p) (.int k' q) = some (c, v)) (hc : c) :
    ∃ cv, (do eqGuard op t x y (.int k p) (.int k' q); binOp op t (.int k p) (.int k' q) : Sem Value).run P w = .ok cv w ∧ ∀ σ, RepV σ v cv := by
  have hg : (eqGuard op t x y (.int k p) (.int k' q)).run P w = .ok () w := by
    unfold eqGuard; split <;> rfl
  cases op <;> simp only [binV, Option.some.injEq, Prod.mk.injEq] at he <;> obtain ⟨rfl, rfl⟩ := he
  case quo =>
    obtain ⟨rfl, hq⟩ := hc
    exact ⟨_, by simp only [Sem.run_bind, hg, Result.andThen_ok, binOp, Op.intDiv, if_neg hq, ne_eq, not_true, if_false]; rfl, fun σ => repV_int.2 rfl⟩
  case rem =>
    obtain ⟨rfl, hq⟩ := hc
    exact ⟨_, by simp only [Sem.run_bind, hg, Result.andThen_ok, binOp, Op.intDiv, if_neg hq, ne_eq, not_true, if_false]; rfl, fun σ => repV_int.2 rfl⟩
  case shl => exact ⟨_, by simp only [Sem.run_bind, hg, Result.andThen_ok, binOp, Op.shift, if_neg (show ¬ q < 0 by omega)]; rfl, fun σ => repV_int.2 rfl⟩
  case shr => exact ⟨_, by simp only [Sem.run_bind, hg, Result.andThen_ok, binOp, Op.shift, if_neg (show ¬ q < 0 by omega)]; rfl, fun σ => repV_int.2 rfl⟩
  case add => subst hc; exact ⟨_, by simp only [Sem.run_bind, hg, Result.andThen_ok, binOp, Op.intArith, ne_eq, not_true, if_false]; rfl, fun σ => repV_int.2 rfl⟩
  case sub => subst hc; exact ⟨_, by simp only [Sem.run_bind, hg, Result.andThen_ok, binOp, Op.intArith, ne_eq, not_true, if_false]; rfl, fun σ => repV_int.2 rfl⟩
  case mul => subst hc; exact ⟨_, by simp only [Sem.run_bind, hg, Result.andThen_ok, binOp, Op.intArith, ne_eq, not_true, if_false]; rfl, fun σ => repV_int.2 rfl⟩
  case and => subst hc; exact ⟨_, by simp only [Sem.run_bind, hg, Result.andThen_ok, binOp, Op.intBits, ne_eq, not_true, if_false]; rfl, fun σ => repV_int.2 rfl⟩
  case or => subst hc; exact ⟨_, by simp only [Sem.run_bind, hg, Result.andThen_ok, binOp, Op.intBits, ne_eq, not_true, if_false]; rfl, fun σ => repV_int.2 rfl⟩
  case xor => subst hc; exact ⟨_, by simp only [Sem.run_bind, hg, Result.andThen_ok, binOp, Op.intBits, ne_eq, not_true, if_false]; rfl, fun σ => repV_int.2 rfl⟩
  case andNot => subst hc; exact ⟨_, by simp only [Sem.run_bind, hg, Result.andThen_ok, binOp, Op.intBits, ne_eq, not_true, if_false]; rfl, fun σ => repV_int.2 rfl⟩
  case eql => subst hc; exact ⟨.bool (decide (p = q)), by simp only [Sem.run_bind, hg, Result.andThen_ok, binOp, Op.intCmp, ne_eq, not_true, if_false, beq_dec]; rfl, fun σ => repV_bool.2 rfl⟩
  case neq => subst hc; exact ⟨.bool (!decide (p = q)), by simp only [Sem.run_bind, hg, Result.andThen_ok, binOp, Op.intCmp, ne_eq, not_true, if_false, bne, beq_dec]; rfl, fun σ => repV_bool.2 rfl⟩
  case lss => subst hc; exact ⟨_, by simp only [Sem.run_bind, hg, Result.andThen_ok, binOp, Op.intCmp, ne_eq, not_true, if_false]; rfl, fun σ => repV_bool.2 rfl⟩
  case leq => subst hc; exact ⟨_, by simp only [Sem.run_bind, hg, Result.andThen_ok, binOp, Op.intCmp, ne_eq, not_true, if_false]; rfl, fun σ => repV_bool.2 rfl⟩
  case gtr => subst hc; exact ⟨_, by simp only [Sem.run_bind, hg, Result.andThen_ok, binOp, Op.intCmp, ne_eq, not_true, if_false]; rfl, fun σ => repV_bool.2 rfl⟩
  case geq => subst hc; exact ⟨_, by simp only [Sem.run_bind, hg, Result.andThen_ok, binOp, Op.intCmp, ne_eq, not_true, if_false]; rfl, fun σ => repV_bool.2 rfl⟩

theorem run_binOp_str (op : BinOp) (t : TypeId) (x y : Operand) (p q : List UInt8) (w : World) {c : Prop} {v : V} (he : binV op (.str p) (.str q) = some (c, v)) (hc : c) :
    ∃ cv, (do eqGuard op t x y (.string ⟨p.toArray⟩) (.string ⟨q.toArray⟩); binOp op t (.string ⟨p.toArray⟩) (.string ⟨q.toArray⟩) : Sem Value).run P w = .ok cv w ∧ ∀ σ, RepV σ v cv := by
  have hg : (eqGuard op t x y (.string ⟨p.toArray⟩) (.string ⟨q.toArray⟩)).run P w = .ok () w := by
    unfold eqGuard; split <;> rfl
  cases op <;> simp only [binV, Option.some.injEq, Prod.mk.injEq, reduceCtorEq] at he <;> obtain ⟨rfl, rfl⟩ := he
  case add =>
    refine ⟨.string ⟨(p ++ q).toArray⟩, ?_, fun σ => repV_str.2 rfl⟩
    have h1 : ¬ (((ByteArray.mk p.toArray).size + (ByteArray.mk q.toArray).size : Nat) : Int) > IntKind.i64.max := by
      simpa [ByteArray.size] using hc
    simp only [Sem.run_bind, hg, Result.andThen_ok, binOp, Op.stringOp, if_neg h1, Sem.run_pure, ByteArray.mk_append_mk]
  case eql => exact ⟨.bool (decide (p = q)), by simp only [Sem.run_bind, hg, Result.andThen_ok, binOp, Op.stringOp, ByteArray.toList_mk, beq_dec]; rfl, fun σ => repV_bool.2 rfl⟩
  case neq => exact ⟨.bool (!decide (p = q)), by simp only [Sem.run_bind, hg, Result.andThen_ok, binOp, Op.stringOp, ByteArray.toList_mk, beq_dec]; rfl, fun σ => repV_bool.2 rfl⟩
  case lss => exact ⟨_, by simp only [Sem.run_bind, hg, Result.andThen_ok, binOp, Op.stringOp, ByteArray.toList_mk]; rfl, fun σ => repV_bool.2 rfl⟩
  case leq => exact ⟨.bool (Op.bytesLess p q || decide (p = q)), by simp only [Sem.run_bind, hg, Result.andThen_ok, binOp, Op.stringOp, ByteArray.toList_mk, beq_dec]; rfl, fun σ => repV_bool.2 rfl⟩
  case gtr => exact ⟨.bool (!(Op.bytesLess p q || decide (p = q))), by simp only [Sem.run_bind, hg, Result.andThen_ok, binOp, Op.stringOp, ByteArray.toList_mk, beq_dec]; rfl, fun σ => repV_bool.2 rfl⟩
  case geq => exact ⟨_, by simp only [Sem.run_bind, hg, Result.andThen_ok, binOp, Op.stringOp, ByteArray.toList_mk]; rfl, fun σ => repV_bool.2 rfl⟩

theorem sound_bin {op : BinOp} {x y : Opd} (hk : chkPure P o.op (.bin op x y) = true) (I : Inv σ) (hf : RepF σ ρ a) (ht : there ρ [x, y] = true)
    (he : binV op (val ρ x) (val ρ y) = some (c, v)) (hc : c) : Yields P (execOp a.eval o) σ v := by
  rw [there_cons, there_cons] at ht
  cases ho : o.op <;> simp only [ho, chkPure] at hk <;> first | (cases hk; done) | skip
  rename_i op' t p q _
  simp only [Bool.and_eq_true, beq_iff_eq] at hk
  obtain ⟨⟨rfl, h1⟩, h2⟩ := hk
  have r1 := opd_rep hf h1 ht.1
  have r2 := opd_rep hf h2 ht.2.1
  cases e1 : val ρ x <;> cases e2 : val ρ y <;> rw [e1, e2] at he <;> first | (simp [binV] at he; done) | skip
  · rw [e1] at r1; rw [e2] at r2
    rw [repV_int] at r1 r2
    obtain ⟨cv, h3, h4⟩ := run_binOp_int op t p q _ _ _ _ σ.w he hc (P := P)
    refine .same I ?_ (h4 σ) (cv := cv)
    simp only [execOp, ho, r1, r2]
    simp only [Sem.run_bind] at h3 ⊢
    simp only [h3, Result.andThen_ok, Sem.run_pure]
  · rw [e1] at r1; rw [e2] at r2
    rw [repV_str] at r1 r2
    obtain ⟨cv, h3, h4⟩ := run_binOp_str op t p q _ _ σ.w he hc (P := P)
    refine .same I ?_ (h4 σ) (cv := cv)
    simp only [execOp, ho, r1, r2]
    simp only [Sem.run_bind] at h3 ⊢
    simp only [h3, Result.andThen_ok, Sem.run_pure]
end
end Go.Abs
end

section
namespace Go.Abs
open Go

theorem V.shapeL_get {xs : List V} {i : Nat} {x : V} (h : xs[i]? = some x) : (V.shapeL xs)[i]? = some x.shape := by
  rw [V.shapeL_eq]; simp [h]
theorem V.shapeL_take (xs : List V) (i : Nat) : (V.shapeL xs).take i = V.shapeL (xs.take i) := by
  rw [V.shapeL_eq, V.shapeL_eq]; simp
theorem V.shapeL_length (xs : List V) : (V.shapeL xs).length = xs.length := by rw [V.shapeL_eq]; simp

theorem V.shape_agg (xs : List V) : (V.agg xs).shape = .agg (V.shapeL xs) := by simp [V.shape]

theorem drop_take_take {α : Type} (l : List α) (a b c d : Nat) (h : c + d ≤ b) : (((l.drop a).take b).drop c).take d = (l.drop (a + c)).take d := by
  rw [List.drop_take, List.take_take, List.drop_drop, Nat.min_eq_left (by omega)]

theorem RepL.get_le {σ : St} : ∀ {xs : List V} {cs : List Value} {i : Nat} {x : V}, RepL σ xs cs → xs[i]? = some x → Sh.sizeL (V.shapeL (xs.take i)) + x.shape.size ≤ cs.length
  | [], _, _, _, _, h => by simp at h
  | y :: ys, cs, 0, x, hr, h => by
    obtain ⟨c, d, rfl, h1, h2⟩ := hr
    have : y = x := by simpa using h
    subst this
    simp [V.shapeL, Sh.sizeL, RepC.length y c h1]
  | y :: ys, cs, i + 1, x, hr, h => by
    obtain ⟨c, d, rfl, h1, h2⟩ := hr
    have h3 := RepL.get_le h2 (by simpa using h : ys[i]? = some x)
    simp only [List.take_succ_cons, V.shapeL, Sh.sizeL, List.length_append, RepC.length y c h1]
    omega

/-- A part's cells. -/
theorem rep_at {σ : St} : ∀ {p : List Nat} {v y : V} {cs : List Value}, RepC σ v cs → v.at p = some y → ∃ o, v.shape.off p = some o ∧ RepC σ y ((cs.drop o).take y.shape.size) ∧ o + y.shape.size ≤ cs.length ∧ v.shape.at p = some y.shape
  | [], v, y, cs, hr, h => by
    cases v <;> simp only [V.at, Option.some.injEq] at h <;> subst h
    all_goals exact ⟨0, by simp [Sh.off], by rw [← RepC.length _ _ hr]; simpa using hr, by rw [← RepC.length _ _ hr]; omega, by simp [Sh.at]⟩
  | i :: p, .agg xs, y, cs, hr, h => by
    simp only [V.at] at h
    split at h
    · rename_i x hx
      have hr' : RepL σ xs cs := hr
      have h1 := RepL.get hr' hx
      have h2 := RepL.get_le hr' hx
      obtain ⟨o, h3, h4, h5, h6⟩ := rep_at h1 h
      have h7 : ((cs.drop (Sh.sizeL (V.shapeL (xs.take i)))).take x.shape.size).length = x.shape.size := RepC.length x _ h1
      rw [h7] at h5
      refine ⟨Sh.sizeL (V.shapeL (xs.take i)) + o, ?_, ?_, by omega, ?_⟩
      · rw [V.shape_agg]; simp only [Sh.off, V.shapeL_get hx, h3, V.shapeL_take, Option.map_some]
      · rw [drop_take_take _ _ _ _ _ h5] at h4; exact h4
      · rw [V.shape_agg]; simp only [Sh.at, V.shapeL_get hx, h6]
    · cases h
  | _ :: _, .junk, _, _, _, h => by simp [V.at] at h
  | _ :: _, .int .., _, _, _, h => by simp [V.at] at h
  | _ :: _, .bool .., _, _, _, h => by simp [V.at] at h
  | _ :: _, .str .., _, _, _, h => by simp [V.at] at h
  | _ :: _, .sl .., _, _, _, h => by simp [V.at] at h
  | _ :: _, .arr .., _, _, _, h => by simp [V.at] at h
  | _ :: _, .ptr .., _, _, _, h => by simp [V.at] at h
  | _ :: _, .nilp, _, _, _, h => by simp [V.at] at h
  | _ :: _, .box .., _, _, _, h => by simp [V.at] at h
  | _ :: _, .map .., _, _, _, h => by simp [V.at] at h
  | _ :: _, .nilmap, _, _, _, h => by simp [V.at] at h
  | _ :: _, .mapv .., _, _, _, h => by simp [V.at] at h
  | _ :: _, .fn .., _, _, _, h => by simp [V.at] at h
  | _ :: _, .nilfn, _, _, _, h => by simp [V.at] at h
  | _ :: _, .tup .., _, _, _, h => by simp [V.at] at h
  | _ :: _, .opt .., _, _, _, h => by simp [V.at] at h

theorem Addr.add_none (b o j : Nat) : (⟨b, o, none⟩ : Addr).add j = ⟨b, o + j, none⟩ := by
  unfold Addr.add; split
  · rename_i h; subst h; rfl
  · rfl

section
variable {P : Program} {σ : St} {ρ : Nat → V} {a : Act} {o : Oper} {v : V} {c : Prop}

/-- Cells that lie somewhere, read as a value of a type. -/
theorem run_loadVar {t : TypeId} {sz : Nat} {ag : Bool} {y : V} {b off : Nat} {cs : List Value} (h1 : szIs P t sz = true) (h2 : aggIs P t ag = true) (hr : RepC σ y cs) (hsz : y.shape.size = sz) (hag : isAggV y = ag)
    (hc : ∀ j v, cs[j]? = some v → σ.w.cell? ⟨b, off + j, none⟩ = some v) : ∃ cv, (loadVar t ⟨b, off, none⟩).run P σ.w = .ok cv σ.w ∧ RepV σ y cv := by
  have hl := RepC.length y _ hr
  cases ag with
  | true =>
    refine ⟨.agg cs.toArray, ?_, hr.repV ((wrap_agg hag).2 rfl)⟩
    have := run_loadCells_list (P := P) (w := σ.w) ⟨b, off, none⟩ cs (fun j v hj => by rw [Addr.add_none]; exact hc j v hj)
    simp only [loadVar, Sem.run_bind, run_agg h2, Result.andThen_ok, if_true, run_size h1]
    rw [← hsz, ← hl, this]
    rfl
  | false =>
    have h1' := size_one hag
    rw [h1'] at hl
    match cs, hl with
    | [c], _ =>
      refine ⟨c, ?_, hr.repV ((wrap_one hag).2 rfl)⟩
      have := hc 0 c rfl
      simp only [Nat.add_zero] at this
      simp [loadVar, run_agg h2, this]

theorem cell_heap {w : World} {b o : Nat} {c : Array Value} {e : TypeId} {fr : Nat × Nat} (h : w.heap[b]? = some (.cells c e fr)) : w.cell? ⟨b, o, none⟩ = c[o]? := by
  simp [World.cell?, h]

theorem shapeAt_cell {H : HP} {t : Nat} {v : V} (h : H[t]? = some (.cell v)) : shapeAt H t = some v.shape := by simp [shapeAt, h]

theorem has_get {b o : Nat} {cs : List Value} (h : σ.has b o cs) (j : Nat) (v : Value) (hj : cs[j]? = some v) : σ.w.cell? ⟨b, o + j, none⟩ = some v := by
  obtain ⟨h1, h2⟩ := List.getElem?_eq_some_iff.1 hj
  rw [← h2]; exact (h j h1).2

theorem sound_load {sz : Nat} {ag : Bool} {x : Opd} (hk : chkPure P o.op (.load sz ag x) = true) (I : Inv σ) (hf : RepF σ ρ a) (ht : there ρ [x] = true)
    (he : evp (.load sz ag x) (val ρ) σ.H = some (c, v)) (hc : c) : Yields P (execOp a.eval o) σ v := by
  rw [there_cons] at ht
  cases ho : o.op <;> simp only [ho, chkPure] at hk <;> first | (cases hk; done) | skip
  rename_i t x'
  simp only [Bool.and_eq_true] at hk
  obtain ⟨⟨h1, h2⟩, h3⟩ := hk
  have r1 := opd_rep hf h1 ht.1
  simp only [evp] at he
  split at he
  · rename_i t' p e1
    rw [e1] at r1
    split at he
    · rename_i u hu
      split at he
      · rename_i y hy
        simp only [Option.some.injEq, Prod.mk.injEq] at he
        obtain ⟨rfl, rfl⟩ := he
        obtain ⟨sh, off, g1, g2, g3⟩ := repV_ptr.1 r1
        obtain ⟨cs, e, fr, k1, k2, k3, k4⟩ := I.blk t' _ hu
        obtain ⟨o', k5, k6, k7, k8⟩ := rep_at k3 hy
        rw [shapeAt_cell hu] at g1
        cases g1
        rw [k5] at g2
        cases g2
        obtain ⟨cv, h4, h5⟩ := run_loadVar (b := σ.g.b t') (off := off) h2 h3 k6 hc.1 hc.2 (fun j v hj => by
          rw [cell_heap k1]
          rw [List.getElem?_take] at hj
          split at hj
          · rw [List.getElem?_drop] at hj; simpa using hj
          · cases hj)
        exact .same I (by simp [execOp, ho, Instr.loadAt, g3, Instr.sureAddr, h4]) h5
      · cases he
    · cases he
  · rename_i y e1
    rw [e1] at r1
    simp only [Option.some.injEq, Prod.mk.injEq] at he
    obtain ⟨rfl, rfl⟩ := he
    obtain ⟨b, off, cs, g1, g2, g3⟩ := repV_box.1 r1
    obtain ⟨cv, h4, h5⟩ := run_loadVar (b := b) (off := off) h2 h3 g2 hc.1 hc.2 (has_get g3)
    exact .same I (by simp [execOp, ho, Instr.loadAt, g1, Instr.sureAddr, h4]) h5
  · cases he

theorem sound_fld {f off sz : Nat} {ag : Bool} {x : Opd} (hk : chkPure P o.op (.fld f off sz ag x) = true) (I : Inv σ) (hf : RepF σ ρ a) (ht : there ρ [x] = true)
    (he : evp (.fld f off sz ag x) (val ρ) σ.H = some (c, v)) (hc : c) : Yields P (execOp a.eval o) σ v := by
  rw [there_cons] at ht
  cases ho : o.op <;> simp only [ho, chkPure] at hk <;> first | (cases hk; done) | skip
  rename_i t x' g
  simp only [Bool.and_eq_true, beq_iff_eq] at hk
  obtain ⟨⟨rfl, h1⟩, h2⟩ := hk
  have r1 := opd_rep hf h1 ht.1
  simp only [evp] at he
  split at he
  · rename_i xs e1
    rw [e1] at r1
    split at he
    · rename_i y hy
      simp only [Option.some.injEq, Prod.mk.injEq] at he
      obtain ⟨rfl, rfl⟩ := he
      obtain ⟨cs, g1, g2⟩ := repV_agg.1 r1
      obtain ⟨c1, c2, c3⟩ := hc
      unfold fieldIs at h2
      split at h2
      · rename_i fs hfs
        split at h2
        · rename_i fd hfd
          simp only [Bool.and_eq_true, beq_iff_eq] at h2
          have k1 := RepL.get g2 hy
          rw [c1, c2] at k1
          obtain ⟨cv, k2, k3⟩ := part_rep h2.1.2 h2.2 k1 c2 c3
          refine .same I ?_ k3
          simp [execOp, ho, Instr.field, run_underlying hfs, hfd, g1, asAgg, h2.1.1, k2]
        · cases h2
      · cases h2
    · cases he
  · cases he

theorem sound_faddr {f off : Nat} {x : Opd} (hk : chkPure P o.op (.faddr f off x) = true) (I : Inv σ) (hf : RepF σ ρ a) (ht : there ρ [x] = true)
    (he : evp (.faddr f off x) (val ρ) σ.H = some (c, v)) (hc : c) : Yields P (execOp a.eval o) σ v := by
  rw [there_cons] at ht
  cases ho : o.op <;> simp only [ho, chkPure] at hk <;> first | (cases hk; done) | skip
  rename_i t x' g
  simp only [Bool.and_eq_true, beq_iff_eq] at hk
  obtain ⟨⟨rfl, h1⟩, h2⟩ := hk
  have r1 := opd_rep hf h1 ht.1
  have hrun : ∀ b o' w, (Instr.fieldAt t (.pointer (some ⟨b, o', none⟩)) g).run P w = .ok (.pointer (some ⟨b, o' + off, none⟩)) w := by
    intro b o' w
    unfold Abs.fieldAt at h2
    split at h2
    · rename_i fs hfs
      split at h2
      · rename_i fd hfd
        simp only [Bool.and_eq_true, beq_iff_eq] at h2
        obtain ⟨h3, h4⟩ := h2
        split at h4
        · rename_i i hi
          have h5 : i.size ≠ 0 := by simpa using h4
          simp [Instr.fieldAt, run_underlying hfs, hfd, Instr.sureAddr, fieldPlace, sizeOf, run_info hi, h5, h3, Addr.add_none]
        · cases h4
      · cases h2
    · cases h2
  simp only [evp] at he
  split at he
  · rename_i t' p e1
    rw [e1] at r1
    split at he
    · rename_i u hu
      split at he
      · rename_i xs hy
        simp only [Option.some.injEq, Prod.mk.injEq] at he
        obtain ⟨rfl, rfl⟩ := he
        obtain ⟨c1, c2⟩ := hc
        obtain ⟨sh, o', g1, g2, g3⟩ := repV_ptr.1 r1
        obtain ⟨cs, e, fr, k1, k2, k3, k4⟩ := I.blk t' _ hu
        rw [shapeAt_cell hu] at g1
        cases g1
        have hat : u.at (p ++ [g]) = some xs[g] := by
          have : ∀ (p : List Nat) (u : V), u.at p = some (.agg xs) → u.at (p ++ [g]) = some xs[g] := by
            intro p
            induction p with
            | nil => intro u h; cases u <;> simp [V.at] at h; subst h; simp [V.at, c1]
            | cons i p ih =>
              intro u h
              cases u <;> simp only [V.at, List.cons_append, reduceCtorEq] at h ⊢
              split at h
              · exact ih _ h
              · cases h
          exact this p u hy
        obtain ⟨o2, k5, k6, k7, k8⟩ := rep_at k3 hat
        have hoff : u.shape.off (p ++ [g]) = some (o' + off) := by
          have : ∀ (p : List Nat) (u : V) (o' : Nat), u.at p = some (.agg xs) → u.shape.off p = some o' → u.shape.off (p ++ [g]) = some (o' + off) := by
            intro p
            induction p with
            | nil =>
              intro u o' h h'
              cases u <;> simp [V.at] at h
              subst h
              simp only [Sh.off, Option.some.injEq] at h'
              subst h'
              rw [V.shape_agg]
              simp [Sh.off, V.shapeL_get (List.getElem?_eq_getElem c1), V.shapeL_take, c2]
            | cons i p ih =>
              intro u o' h h'
              cases u <;> simp only [V.at, reduceCtorEq] at h
              split at h
              · rename_i z hz
                rw [V.shape_agg] at h' ⊢
                simp only [Sh.off, V.shapeL_get hz, Option.map_eq_some_iff] at h'
                obtain ⟨o3, h4, h5⟩ := h'
                simp only [List.cons_append, Sh.off, V.shapeL_get hz, ih _ _ h h4, Option.map_some]
                rw [← h5, Nat.add_assoc]
              · cases h
          exact this p u o' hy g2
        refine .same I ?_ (repV_ptr.2 ⟨_, _, shapeAt_cell hu, hoff, rfl⟩)
        simp [execOp, ho, g3, hrun]
      · cases he
    · cases he
  · rename_i xs e1
    rw [e1] at r1
    split at he
    · rename_i y hy
      simp only [Option.some.injEq, Prod.mk.injEq] at he
      obtain ⟨rfl, rfl⟩ := he
      obtain ⟨b, o', cs, g1, g2, g3⟩ := repV_box.1 r1
      have g2' : RepL σ xs cs := g2
      subst hc
      refine .same I ?_ (repV_box.2 ⟨b, o' + Sh.sizeL (V.shapeL (xs.take g)), _, rfl, RepL.get g2' hy, fun k hk => ?_⟩)
      · simp [execOp, ho, g1, hrun]
      · have hle := RepL.get_le g2' hy
        simp only [List.length_take, List.length_drop] at hk
        have := g3 (Sh.sizeL (V.shapeL (xs.take g)) + k) (by omega)
        simp only [List.getElem_take, List.getElem_drop]
        rw [Nat.add_assoc]
        exact this
    · cases he
  · cases he
end
end Go.Abs
end
