/-
  Abstract code against the model's: maps. Abstract code against the model's: operations that make or turn memory. Abstract code against the model's: new variables, stores, rows.
  Conditions: those that stand ahead of each theorem; no more.
-/
import Derived.Laws.Append
import Derived.Test.YtblnejkfaniljaaGreatDoorT06

section
namespace Go.Abs
open Go

def findE (k : V) : List V → List Value → Nat → Option (Nat × Value)
  | x :: xs, v :: vs, i => if k.eq x then some (i, v) else findE k xs vs (i + 1)
  | _, _, _ => none

theorem findV_ge {k : V} : ∀ {xs : List V} {i j : Nat}, findV k xs i = some j → i ≤ j ∧ j < i + xs.length
  | [], _, _, h => by simp [findV] at h
  | x :: xs, i, j, h => by
    simp only [findV] at h
    split at h
    · cases h; simp
    · have := findV_ge h
      simp; omega

theorem findE_eq {k : V} : ∀ {xs : List V} {vs : List Value} {i : Nat}, xs.length = vs.length → findE k xs vs i = match findV k xs i with | some j => (vs[j - i]?).map (j, ·) | none => none
  | [], [], _, _ => by simp [findE, findV]
  | x :: xs, v :: vs, i, h => by
    simp only [findE, findV]
    split
    · simp
    · rw [findE_eq (by simpa using h)]
      cases hf : findV k xs (i + 1) with
      | none => rfl
      | some j =>
        have := (findV_ge hf).1
        simp only
        rw [show j - i = (j - (i + 1)) + 1 by omega, List.getElem?_cons_succ]
  | [], _ :: _, _, h => by simp at h
  | _ :: _, [], _, h => by simp at h

section
variable {P : Program} {σ : St} {ρ : Nat → V} {a : Act} {o : Oper} {v : V} {c : Prop}

theorem run_findAsking {kt : TypeId} {td : TD} (ht : tdChk P kt td = true) (hd : td.depth < 10000) {k : V} {K : Value} (hk : td.fits k = true) (rk : RepV σ k K) (w : World) :
    ∀ (ks : List V) (es : List MapEntry) (i : Nat), (∀ x ∈ ks, td.fits x = true) → RepVs σ ks (es.map (·.key)) → (Instr.findAsking kt K es i).run P w = .ok (findE k ks (es.map (·.val)) i) w
  | [], es, i, _, h => by
    have : es = [] := by have h' : es.map (·.key) = [] := h; simpa using h'
    subst this; rfl
  | x :: xs, es, i, hx, ⟨c, d, l, h1, h2, h3, h4⟩ => by
    cases es with
    | nil => simp at h1
    | cons e es =>
      simp only [List.map_cons, List.cons.injEq] at h1
      obtain ⟨rfl, rfl⟩ := h1
      have E := equal_rep P td kt k x K e.key 10000 ht hk (hx x (by simp)) rk (h2.repV h3) hd w
      have E' : (Op.equal kt K e.key).run P w = .ok (k.eq x) w := E
      simp only [Instr.findAsking, Sem.run_bind, E', Result.andThen_ok, List.map_cons, findE]
      cases k.eq x
      · simp only [Bool.false_eq_true, if_false]
        exact run_findAsking ht hd hk rk w xs es (i + 1) (fun y hy => hx y (by simp [hy])) h4
      · simp

theorem findNow_simple {d : TypeDesc} {k : V} {K : Value} {td : TD} (hs : ∀ (x : V) (X : Value), td.fits x = true → RepV σ x X → Instr.sameNow d K X = some (k.eq x)) :
    ∀ (ks : List V) (es : List MapEntry) (i : Nat), (∀ x ∈ ks, td.fits x = true) → RepVs σ ks (es.map (·.key)) → Instr.findNow d K es i = some (findE k ks (es.map (·.val)) i)
  | [], es, i, _, h => by
    have : es = [] := by have h' : es.map (·.key) = [] := h; simpa using h'
    subst this; rfl
  | x :: xs, es, i, hx, ⟨c, d', l, h1, h2, h3, h4⟩ => by
    cases es with
    | nil => simp at h1
    | cons e es =>
      simp only [List.map_cons, List.cons.injEq] at h1
      obtain ⟨rfl, rfl⟩ := h1
      have E := hs x e.key (hx x (by simp)) (h2.repV h3)
      simp only [Instr.findNow, E, List.map_cons, findE]
      cases k.eq x
      · simp only [Bool.false_eq_true, if_false]
        exact findNow_simple hs xs es (i + 1) (fun y hy => hx y (by simp [hy])) h4
      · simp

theorem run_findKey {kt : TypeId} {td : TD} (ht : tdChk P kt td = true) (hd : td.depth < 10000) {k : V} {K : Value} (hk : td.fits k = true) (rk : RepV σ k K) {ks : List V} {es : List MapEntry} (hks : ∀ x ∈ ks, td.fits x = true)
    (rks : RepVs σ ks (es.map (·.key))) (w : World) : (Instr.findKey kt K es).run P w = .ok (findE k ks (es.map (·.val)) 0) w := by
  have hask := run_findAsking ht hd hk rk w ks es 0 hks rks
  unfold Instr.findKey
  cases td with
  | int q =>
    simp only [tdChk] at ht
    obtain ⟨u, g1, g2⟩ := isDesc_spec ht
    cases u <;> simp at g2
    cases k <;> simp [TD.fits] at hk
    rename_i k' n
    rw [repV_int] at rk
    subst rk; subst hk
    have := findNow_simple (σ := σ) (td := .int q) (d := .int q) (k := .int q n) (K := .int q n) (fun x X f rx => by
      cases x <;> simp [TD.fits] at f
      rw [repV_int] at rx
      subst rx; subst f
      simp [Instr.sameNow, V.eq, beq_dec]) ks es 0 hks rks
    subst g2
    simp only [Sem.run_bind, run_underlying g1, Result.andThen_ok, this, Sem.run_pure]
  | bool =>
    simp only [tdChk] at ht
    obtain ⟨u, g1, g2⟩ := isDesc_spec ht
    cases u <;> simp at g2
    cases k <;> simp [TD.fits] at hk
    rename_i n
    rw [repV_bool] at rk
    subst rk
    have := findNow_simple (σ := σ) (td := .bool) (d := .bool) (k := .bool n) (K := .bool n) (fun x X f rx => by
      cases x <;> simp [TD.fits] at f
      rw [repV_bool] at rx
      subst rx
      simp [Instr.sameNow, V.eq]) ks es 0 hks rks
    simp only [Sem.run_bind, run_underlying g1, Result.andThen_ok, this, Sem.run_pure]
  | str =>
    simp only [tdChk] at ht
    obtain ⟨u, g1, g2⟩ := isDesc_spec ht
    cases u <;> simp at g2
    cases k <;> simp [TD.fits] at hk
    rename_i n
    rw [repV_str] at rk
    subst rk
    have := findNow_simple (σ := σ) (td := .str) (d := .string) (k := .str n) (K := .string ⟨n.toArray⟩) (fun x X f rx => by
      cases x <;> simp [TD.fits] at f
      rw [repV_str] at rx
      subst rx
      simp [Instr.sameNow, V.eq, beq_toListBytes, beq_dec]) ks es 0 hks rks
    simp only [Sem.run_bind, run_underlying g1, Result.andThen_ok, this, Sem.run_pure]
  | arr n e =>
    simp only [tdChk] at ht
    split at ht
    · rename_i m u hu
      simp only [Sem.run_bind, run_underlying hu, Result.andThen_ok]
      cases es with
      | nil =>
        cases ks with
        | nil => rfl
        | cons _ _ => obtain ⟨_, _, _, h, _⟩ := rks; simp at h
      | cons e es =>
        have : Instr.findNow (.array m u) K (e :: es) 0 = none := by simp [Instr.findNow, Instr.sameNow]
        rw [this]; exact hask
    · cases ht
  | struct fs =>
    simp only [tdChk] at ht
    split at ht
    · rename_i gs hu
      simp only [Sem.run_bind, run_underlying hu, Result.andThen_ok]
      cases es with
      | nil =>
        cases ks with
        | nil => rfl
        | cons _ _ => obtain ⟨_, _, _, h, _⟩ := rks; simp at h
      | cons e es =>
        have : Instr.findNow (.struct gs) K (e :: es) 0 = none := by simp [Instr.findNow, Instr.sameNow]
        rw [this]; exact hask
    · cases ht

/-- A loop whose rounds tell nothing. -/
theorem run_forIn_ok {α : Type} (f : α → PUnit → Sem (ForInStep PUnit)) (w : World) : ∀ (l : List α), (∀ x ∈ l, (f x PUnit.unit).run P w = .ok (.yield PUnit.unit) w) → (forIn l PUnit.unit f).run P w = .ok PUnit.unit w
  | [], _ => by simp
  | x :: l, h => by
    simp only [List.forIn_cons, Sem.run_bind, h x (by simp), Result.andThen_ok]
    exact run_forIn_ok f w l fun y hy => h y (by simp [hy])

mutual
theorem run_checkKey_td (P : Program) {σ : St} : ∀ (td : TD) (t : TypeId) (x : V) (X : Value) (em : Bool) (d : Nat), tdChk P t td = true → td.fits x = true → RepV σ x X → td.depth < d → ∀ w, (Instr.checkKey em d t X).run P w = .ok () w
  | .int k, t, x, X, em, d + 1, ht, hx, rx, _, w => by
    simp only [tdChk] at ht
    obtain ⟨u, g1, g2⟩ := isDesc_spec ht
    cases u <;> simp at g2
    cases x <;> simp [TD.fits] at hx
    rw [repV_int] at rx; subst rx
    simp [Instr.checkKey, run_underlying g1]
  | .bool, t, x, X, em, d + 1, ht, hx, rx, _, w => by
    simp only [tdChk] at ht
    obtain ⟨u, g1, g2⟩ := isDesc_spec ht
    cases u <;> simp at g2
    cases x <;> simp [TD.fits] at hx
    rw [repV_bool] at rx; subst rx
    simp [Instr.checkKey, run_underlying g1]
  | .str, t, x, X, em, d + 1, ht, hx, rx, _, w => by
    simp only [tdChk] at ht
    obtain ⟨u, g1, g2⟩ := isDesc_spec ht
    cases u <;> simp at g2
    cases x <;> simp [TD.fits] at hx
    rw [repV_str] at rx; subst rx
    simp [Instr.checkKey, run_underlying g1]
  | .arr n e, t, x, X, em, d + 1, ht, hx, rx, hd, w => by
    cases x <;> simp [TD.fits] at hx
    rename_i xs
    obtain ⟨cs, rfl, rx'⟩ := repV_agg.1 rx
    simp only [TD.depth] at hd
    simp only [tdChk] at ht
    split at ht
    · rename_i m u hu
      simp only [Bool.and_eq_true, beq_iff_eq] at ht
      obtain ⟨⟨⟨rfl, h1⟩, h2⟩, h3⟩ := ht
      simp only [Instr.checkKey, Sem.run_bind, run_underlying hu, Result.andThen_ok]
      simp only [Std.Legacy.Range.forIn_eq_forIn_range', Std.Legacy.Range.size, Nat.sub_zero, Nat.add_one_sub_one, Nat.div_one]
      rw [run_forIn_ok _ w _ fun i hi => ?_]
      · simp
      · have hi' : i < m := by simpa using hi
        have gx := List.getElem?_eq_getElem (show i < xs.length by omega)
        have fx := TD.fitsAll_get hx.2 gx
        have px := RepL.get rx' gx
        rw [TD.fitsAll_size e _ (TD.fitsAll_take i hx.2), (TD.fits_size e _ fx).1, List.length_take, Nat.min_eq_left (by omega)] at px
        obtain ⟨X, p1, p2⟩ := part_rep h1 h2 px (TD.fits_size e _ fx).1 (TD.fits_size e _ fx).2
        simp only [Sem.run_bind, run_size h1, Result.andThen_ok, p1, run_checkKey_td P e u _ X em d h3 fx p2 (by omega) w, Sem.run_pure]
    · cases ht
  | .struct fs, t, x, X, em, d + 1, ht, hx, rx, hd, w => by
    cases x <;> simp [TD.fits] at hx
    rename_i xs
    obtain ⟨cs, rfl, rx'⟩ := repV_agg.1 rx
    simp only [TD.depth] at hd
    simp only [tdChk] at ht
    split at ht
    · rename_i gs hu
      simp only [Bool.and_eq_true, Bool.not_eq_true'] at ht
      simp only [Instr.checkKey, Sem.run_bind, run_underlying hu, Result.andThen_ok]
      rw [← Array.forIn_toList]
      have := run_checkKeyL P fs gs.toList 0 xs cs cs em d ht.2 hx rx' (by simp) (by omega) w
      rw [run_forIn_ok _ w _ fun f hf => ?_]
      · simp
      · obtain ⟨X, h1, h2, h3⟩ := this f hf
        simp only [ne_eq, h1, not_false_eq_true, if_true, Sem.run_bind, h2, Result.andThen_ok, h3, Sem.run_pure]
    · cases ht
  | .int _, _, _, _, _, 0, _, _, _, hd, _ => by omega
  | .bool, _, _, _, _, 0, _, _, _, hd, _ => by omega
  | .str, _, _, _, _, 0, _, _, _, hd, _ => by omega
  | .arr _ _, _, _, _, _, 0, _, _, _, hd, _ => by omega
  | .struct _, _, _, _, _, 0, _, _, _, hd, _ => by omega
theorem run_checkKeyL (P : Program) {σ : St} : ∀ (fs : List TD) (gs : List Field) (off : Nat) (xs : List V) (cs CS : List Value) (em : Bool) (d : Nat), tdChkL P off gs fs = true → TD.fitsL fs xs = true → RepL σ xs cs →
    CS.drop off = cs → TD.depthL fs < d → ∀ w, ∀ f ∈ gs, ∃ X, f.name ≠ "_" ∧ (part f.type CS.toArray f.offset).run P w = .ok X w ∧ (Instr.checkKey em d f.type X).run P w = .ok () w
  | [], [], _, _, _, _, _, _, _, _, _, _, _, _, f, hf => by cases hf
  | t :: fs, g :: gs, off, xs, cs, CS, em, d, ht, hx, rx, e1, hd, w, f, hf => by
    cases xs with
    | nil => simp [TD.fitsL] at hx
    | cons x xs =>
      simp only [TD.fitsL, Bool.and_eq_true] at hx
      simp only [tdChkL, Bool.and_eq_true, bne_iff_ne, beq_iff_eq] at ht
      obtain ⟨⟨⟨⟨⟨h1, h2⟩, h3⟩, h4⟩, h5⟩, h6⟩ := ht
      simp only [TD.depthL] at hd
      obtain ⟨c1, c2, rfl, r1, r2⟩ := rx
      have l1 := RepC.length x c1 r1
      rw [(TD.fits_size t x hx.1).1] at l1
      rcases List.mem_cons.1 hf with rfl | hf
      · obtain ⟨X, p1, p2⟩ := part_rep (off := off) (cs := CS) h3 h4 (by rw [e1, List.take_left' l1]; exact r1) (TD.fits_size t x hx.1).1 (TD.fits_size t x hx.1).2
        exact ⟨X, h1, by rw [h2]; exact p1 w, run_checkKey_td P t f.type x X em d h5 hx.1 p2 (by omega) w⟩
      · exact run_checkKeyL P fs gs (off + t.size) xs c2 CS em d h6 hx.2 r2 (by rw [← List.drop_drop, e1, List.drop_left' l1]) (by omega) w f hf
  | [], _ :: _, _, _, _, _, _, _, ht, _, _, _, _, _, _, _ => by simp [tdChkL] at ht
  | _ :: _, [], _, _, _, _, _, _, ht, _, _, _, _, _, _, _ => by simp [tdChkL] at ht
end

theorem mapOfT_spec {t e : TypeId} {td : TD} (h : mapOfT P t td = some e) : ∃ k, P.underlying t = some (.map k e) ∧ tdChk P k td = true := by
  unfold mapOfT at h
  split at h
  · rename_i k e' hu
    split at h
    · rename_i hk; cases h; exact ⟨k, hu, hk⟩
    · cases h
  · cases h

/-- What a map holds. -/
theorem map_rep (I : Inv σ) {m : V} {M : Value} (r : RepV σ m M) {ks vs : List V} (h : mapOf σ.H m = some (ks, vs)) :
    (M = .map none ∧ ks = [] ∧ vs = []) ∨ ∃ b es clk, M = .map (some b) ∧ σ.w.heap[b]? = some (.map es clk) ∧ RepVs σ ks (es.toList.map (·.key)) ∧ RepVs σ vs (es.toList.map (·.val)) := by
  unfold mapOf at h
  split at h
  · rename_i t
    split at h
    · rename_i ks' vs' hm
      cases h
      obtain ⟨_, k1⟩ := repV_map.1 r
      obtain ⟨es, clk, k2, k3, k4, k5⟩ := I.blk t _ hm
      exact .inr ⟨_, es, clk, k1, k2, k3, k4⟩
    · cases h
  · cases h
    obtain ⟨b, es, clk, k1, k2, k3, k4, k5⟩ := repV_mapv.1 r
    exact .inr ⟨b, es, clk, k1, k3, k4, k5⟩
  · rw [repV_nilmap] at r
    cases h
    exact .inl ⟨r, rfl, rfl⟩
  · cases h

theorem sound_lookup {td : TD} {ok : Bool} {z : V} {m k : Opd} (hk : chkPure P o.op (.lookup td ok z m k) = true) (hd : td.depth < 10000) (I : Inv σ) (hf : RepF σ ρ a) (ht : there ρ [m, k] = true)
    (he : evp (.lookup td ok z m k) (val ρ) σ.H = some (c, v)) (hc : c) : Yields P (execOp a.eval o) σ v := by
  rw [there_cons, there_cons] at ht
  cases ho : o.op <;> simp only [ho, chkPure] at hk <;> first | (cases hk; done) | skip
  rename_i t m' k' ok'
  simp only [Bool.and_eq_true, beq_iff_eq] at hk
  obtain ⟨⟨⟨rfl, h1⟩, h2⟩, h3⟩ := hk
  have r1 := opd_rep hf h1 ht.1
  have r2 := opd_rep hf h2 ht.2.1
  split at h3
  · rename_i e he'
    obtain ⟨kt, hu, htd⟩ := mapOfT_spec he'
    obtain ⟨u, hz, hrun⟩ := run_zero h3
    have hzr : RepV σ z u := constOk_repV hz σ
    simp only [evp] at he
    split at he
    · rename_i ks vs hm
      simp only [Option.some.injEq, Prod.mk.injEq] at he
      obtain ⟨rfl, rfl⟩ := he
      obtain ⟨c1, c2, c3, c4⟩ := hc
      have hck : ∀ em w, (Instr.checkKey em 10000 kt (a.eval k')).run P w = .ok () w := fun em w => run_checkKey_td P td kt _ _ em 10000 htd c1 r2 hd w
      -- what the entries give
      have key : ∀ es : List MapEntry, RepVs σ ks (es.map (·.key)) → RepVs σ vs (es.map (·.val)) → ∃ q : Option (Nat × Value), (∀ w, (Instr.findKey kt (a.eval k') es).run P w = .ok q w) ∧
          (match q with | some (_, X) => (findV (val ρ k) ks 0).isSome = true ∧ RepV σ (match findV (val ρ k) ks 0 with | some i => vs.getD i .junk | none => z) X | none => findV (val ρ k) ks 0 = none) := by
        intro es rk rv
        refine ⟨_, fun w => run_findKey htd hd c1 r2 c2 rk w, ?_⟩
        have hl : ks.length = (es.map (·.val)).length := by rw [RepVs.length rk]; simp
        rw [findE_eq hl]
        cases hfv : findV (val ρ k) ks 0 with
        | none => rfl
        | some i =>
          have hi := (findV_ge hfv).2
          have hi' : i < vs.length := by omega
          obtain ⟨X, g1, g2⟩ := RepVs.get rv (List.getElem?_eq_getElem hi')
          simp only [Nat.sub_zero, g1, Option.map_some]
          exact ⟨rfl, by rw [List.getD_eq_getElem?_getD, List.getElem?_eq_getElem hi']; exact g2⟩
      obtain ⟨es, rk, rv, hget⟩ : ∃ es : Array MapEntry, RepVs σ ks (es.toList.map (·.key)) ∧ RepVs σ vs (es.toList.map (·.val)) ∧ ((a.eval m' = .map none ∧ es = #[]) ∨ ∃ b clk, a.eval m' = .map (some b) ∧ σ.w.heap[b]? = some (.map es clk)) := by
        rcases map_rep I r1 hm with ⟨g1, rfl, rfl⟩ | ⟨b, es, clk, g1, g2, g3, g4⟩
        · exact ⟨#[], rfl, rfl, .inl ⟨g1, rfl⟩⟩
        · exact ⟨es, g3, g4, .inr ⟨b, clk, g1, g2⟩⟩
      obtain ⟨q, q1, q2⟩ := key es.toList rk rv
      have hl : ∀ X b, (match q with | some (_, v) => v = X ∧ true = b | none => u = X ∧ false = b) →
          (execOp a.eval o).run P σ.w = .ok (.value (if ok then .tuple #[X, .bool b] else X)) σ.w := by
        intro X b hX
        rcases hget with ⟨g1, rfl⟩ | ⟨b', clk, g1, g2⟩
        · simp only [execOp, ho, Instr.lookup, Sem.run_bind, run_underlying hu, Result.andThen_ok, g1, Sem.run_pure, hck, q1]
          cases q with
          | none => obtain ⟨rfl, rfl⟩ := hX; simp only [Sem.run_bind, hrun, Result.andThen_ok, Sem.run_pure]
          | some q => obtain ⟨rfl, rfl⟩ := hX; simp only [Sem.run_bind, Result.andThen_ok, Sem.run_pure]
        · simp only [execOp, ho, Instr.lookup, Sem.run_bind, run_underlying hu, Result.andThen_ok, g1, run_getObj_map g2, Sem.run_pure, hck, q1]
          cases q with
          | none => obtain ⟨rfl, rfl⟩ := hX; simp only [Sem.run_bind, hrun, Result.andThen_ok, Sem.run_pure]
          | some q => obtain ⟨rfl, rfl⟩ := hX; simp only [Sem.run_bind, Result.andThen_ok, Sem.run_pure]
      cases q with
      | none =>
        have q2' : findV (val ρ k) ks 0 = none := q2
        rw [q2']
        have := hl u false ⟨rfl, rfl⟩
        cases ok with
        | true => exact .same I this (repV_tup.2 ⟨_, rfl, repVs_of_all (fun y hy => by
            rcases List.mem_cons.1 hy with rfl | hy
            · exact (constOk_rep hz σ).1
            · simp at hy; subst hy; rfl) ⟨_, _, rfl, hzr, _, _, rfl, repV_bool.2 rfl, rfl⟩⟩)
        | false => exact .same I this hzr
      | some q =>
        obtain ⟨i, X⟩ := q
        obtain ⟨q3, q4⟩ := q2
        rw [q3]
        have := hl X true ⟨rfl, rfl⟩
        cases ok with
        | true =>
          refine .same I this (repV_tup.2 ⟨_, rfl, repVs_of_all (fun y hy => ?_) ⟨_, _, rfl, q4, _, _, rfl, repV_bool.2 rfl, rfl⟩⟩)
          rcases List.mem_cons.1 hy with rfl | hy
          · obtain ⟨j, hj⟩ := Option.isSome_iff_exists.1 q3
            rw [hj]
            have hi := (findV_ge hj).2
            have hj' : j < vs.length := by omega
            exact c4 _ (by show vs.getD j .junk ∈ vs; rw [List.getD_eq_getElem?_getD, List.getElem?_eq_getElem hj']; exact List.getElem_mem _)
          · simp at hy; subst hy; rfl
        | false => exact .same I this q4
    · cases he
  · cases h3
end
end Go.Abs
end

section
namespace Go.Abs
open Go

/-- An operation that tells a value, or none, and may turn the abstract heap. -/
def Does (P : Program) (e : Sem Next) (σ : St) (K : V → HP → Prop) : Prop :=
  ∃ v cv σ', (e.run P σ.w = .ok (.value cv) σ'.w ∨ (e.run P σ.w = .ok .skip σ'.w ∧ cv = undef)) ∧ Inv σ' ∧ RepV σ' v cv ∧ Tr σ.H.length σ σ' ∧ K v σ'.H

/-- A block written in place. -/
def St.wr (σ : St) (w' : World) (t : Nat) (x : Blk) : St := { σ with w := w', H := σ.H.set t x }

structure Wr (σ : St) (w' : World) (t : Nat) : Prop where
  os : w'.os = σ.w.os
  tape : w'.tape = σ.w.tape
  output : w'.output = σ.w.output
  size : w'.heap.size = σ.w.heap.size
  other : ∀ b, b ≠ σ.g.b t → w'.heap[b]? = σ.w.heap[b]?

def sameKind : Blk → Blk → Prop
  | .cell v, .cell v' => v'.shape = v.shape
  | .map _ _, .map _ _ => True
  | _, _ => False

theorem sameKind_res {x y : Blk} (h : sameKind x y) : (match x with | .cell _ | .map _ _ => True | _ => False) ∧ (match y with | .cell _ | .map _ _ => True | _ => False) := by
  cases x <;> cases y <;> simp [sameKind] at h ⊢

theorem Res.wr {σ : St} {w' : World} {t : Nat} {x y : Blk} (hx : σ.H[t]? = some x) (hk : sameKind x y) (i : Nat) : Res (σ.wr w' t y) i ↔ Res σ i := by
  unfold Res St.wr
  simp only [List.getElem?_set]
  by_cases e : t = i
  · subst e
    have hlt := (List.getElem?_eq_some_iff.1 hx).1
    simp only [if_true, hlt, hx]
    cases x <;> cases y <;> simp [sameKind] at hk ⊢
  · simp only [if_neg e]

theorem noS {σ : St} (I : Inv σ) {t : Nat} {x y : Blk} (hx : σ.H[t]? = some x) (hk : sameKind x y) : ∀ o, ¬ σ.S (σ.g.b t) o := by
  have := I.blk t x hx
  cases x with
  | cell v => exact this.choose_spec.choose_spec.choose_spec.2.2.2
  | map ks vs => exact this.choose_spec.choose_spec.2.2.2
  | row => cases y <;> simp [sameKind] at hk
  | dead => cases y <;> simp [sameKind] at hk

theorem St.wr_tr {σ : St} (I : Inv σ) {w' : World} {t : Nat} {x y : Blk} (hw : Wr σ w' t) (hx : σ.H[t]? = some x) (hk : sameKind x y) (n : Nat) : Tr n σ (σ.wr w' t y) := by
  have hS := noS I hx hk
  have hlt := (List.getElem?_eq_some_iff.1 hx).1
  have hres : Res σ t := by unfold Res; rw [hx]; cases x <;> cases y <;> simp [sameKind] at hk ⊢
  have hb : ∀ b, σ.S b 0 ∨ (∃ o, σ.S b o) → b ≠ σ.g.b t := by
    rintro b (h | ⟨o, h⟩) e
    · subst e; exact hS _ h
    · subst e; exact hS _ h
  refine ⟨hw.os, hw.tape, hw.output, by show _ ≤ w'.heap.size; rw [hw.size]; exact Nat.le_refl _, ?_, fun _ _ h => h, ?_, ?_, fun _ _ _ _ h => h, fun i hi => .inl ⟨i, (Res.wr hx hk i).1 hi, rfl⟩, ?_, ?_, ?_⟩
  · intro b _ hno; exact hw.other b fun e => hno t hres e.symm
  · intro b o v hs hv
    exact cell_of_heap (w := σ.w) (w' := w') (fun z hz => by rw [hw.other b (hb b (.inr ⟨o, hs⟩))]; exact hz) hv
  · intro b es c hs hv
    show w'.heap[b]? = _
    rw [hw.other b (hb b (.inl hs))]; exact hv
  · intro i v _ hv
    by_cases e : t = i
    · subst e
      rw [hx] at hv
      cases hv
      cases y <;> simp only [sameKind] at hk
      rename_i v'
      exact ⟨v', by simp [St.wr, hlt], hk, rfl⟩
    · exact ⟨v, by simp [St.wr, e]; exact hv, rfl, rfl⟩
  · intro i ks vs _ hv
    by_cases e : t = i
    · subst e
      rw [hx] at hv
      cases hv
      cases y <;> simp only [sameKind] at hk
      rename_i ks' vs'
      exact ⟨ks', vs', by simp [St.wr, hlt], rfl⟩
    · exact ⟨ks, vs, by simp [St.wr, e]; exact hv, rfl⟩
  · intro i m sz _ hv
    by_cases e : t = i
    · subst e
      rw [hx] at hv
      cases hv
      cases y <;> simp only [sameKind] at hk
    · exact ⟨m, by simp [St.wr, e]; exact hv, .inr ⟨rfl, rfl, rfl, rfl⟩⟩

theorem St.wr_inv {σ : St} (I : Inv σ) {w' : World} {t : Nat} {x y : Blk} (hw : Wr σ w' t) (hx : σ.H[t]? = some x) (hk : sameKind x y) (hy : BlkOk (σ.wr w' t y) t y) : Inv (σ.wr w' t y) := by
  have hle := (St.wr_tr I hw hx hk σ.H.length).le
  have hres : Res σ t := by unfold Res; rw [hx]; cases x <;> cases y <;> simp [sameKind] at hk ⊢
  refine ⟨fun b o h => by show b < w'.heap.size; rw [hw.size]; exact I.bound b o h, ?_, fun i j hi hj e => I.inj i j ((Res.wr hx hk i).1 hi) ((Res.wr hx hk j).1 hj) e⟩
  intro i z hz
  by_cases e : t = i
  · subst e
    have hlt := (List.getElem?_eq_some_iff.1 hx).1
    have : y = z := by simpa [St.wr, hlt] using hz
    subst this
    exact hy
  · have hz' : σ.H[i]? = some z := by simpa [St.wr, List.getElem?_set, e] using hz
    by_cases hri : Res σ i
    · refine BlkOk.keep hle ⟨rfl, rfl, rfl⟩ (fun o ho => ?_) (fun _ _ _ => Iff.rfl) (I.blk i z hz')
      show w'.heap[_]? = _
      rw [hw.other _ (fun h => e (I.inj t i hres hri h.symm))]; exact ho
    · unfold Res at hri
      rw [hz'] at hri
      cases z with
      | cell => exact (hri trivial).elim
      | map => exact (hri trivial).elim
      | row n sz => intro hl; exact (hri hl).elim
      | dead => trivial

/-- A list stored from a cell on, the cells being there and not frozen. -/
theorem run_storeCells {P : Program} {b : Nat} {e : TypeId} {fr : Nat × Nat} : ∀ (vs : List Value) (o i : Nat) (cur : Array Value) (w : World), w.heap[b]? = some (.cells cur e fr) → Unfrozen cur fr → o + i + vs.length ≤ cur.size → (∀ v ∈ vs, v.oneCell' = true) →
    ∃ w', (storeCells ⟨b, o, none⟩ vs i).run P w = .ok () w' ∧ w'.os = w.os ∧ w'.tape = w.tape ∧ w'.output = w.output ∧ w'.heap.size = w.heap.size ∧ (∀ c, c ≠ b → w'.heap[c]? = w.heap[c]?) ∧
      ∃ cur', w'.heap[b]? = some (.cells cur' e fr) ∧ cur'.toList = cur.toList.take (o + i) ++ vs ++ cur.toList.drop (o + i + vs.length)
  | [], o, i, cur, w, h, _, hs, _ => ⟨w, rfl, rfl, rfl, rfl, rfl, fun _ _ => rfl, cur, h, by simp⟩
  | v :: vs, o, i, cur, w, h, hu, hs, hv => by
    simp only [List.length_cons] at hs
    have hc : w.cell? ⟨b, o + i, none⟩ = some (cur[o + i]'(by omega)) := by rw [cell_heap h]; simp
    have hf : w.frozen? ⟨b, o + i, none⟩ = false := by
      have := hu (o + i) (by omega)
      simp only [World.frozen?, h, Bool.and_eq_false_iff, decide_eq_false_iff_not]
      omega
    have hb : (w.setCell ⟨b, o + i, none⟩ v).heap[b]? = some (.cells (cur.setIfInBounds (o + i) v) e fr) := by
      simp [World.setCell, Array.getElem?_modify, h]
    obtain ⟨w', k1, k2, k3, k4, k5, k6, cur', k7, k8⟩ := run_storeCells (P := P) vs o (i + 1) (cur.setIfInBounds (o + i) v) (w.setCell ⟨b, o + i, none⟩ v) hb (fun j hj => hu j (by simpa using hj)) (by simp; omega) (fun x hx => hv x (by simp [hx]))
    refine ⟨w', ?_, k2, k3, k4, by rw [k5]; simp, fun c hc' => ?_, cur', k7, ?_⟩
    · simp only [storeCells, Sem.run_bind, Addr.add_none]
      rw [run_store P w _ v _ (hv v (by simp)), hc]
      simp only [hf, Bool.false_eq_true, if_false, Result.andThen_ok, k1]
    · rw [k6 c hc']
      simp only [World.setCell, Array.getElem?_modify]
      rw [if_neg (by omega)]
    · rw [k8]
      apply List.ext_getElem?
      intro j
      simp only [Array.toList_setIfInBounds, List.append_assoc, List.length_cons]
      simp only [List.getElem?_append, List.length_take, List.length_set, Array.length_toList, List.getElem?_take, List.getElem?_set, List.getElem?_drop, List.length_cons, List.getElem?_cons]
      repeat' split
      all_goals first | rfl | omega | (congr 1; omega) | skip

theorem oneCells : True := trivial

mutual
theorem RepC.one {σ : St} : ∀ {v : V} {cs : List Value}, RepC σ v cs → ∀ c ∈ cs, c.oneCell' = true
  | .junk, cs, h => by obtain ⟨c, rfl, h⟩ := h; intro d hd; simp at hd; rw [hd]; exact h
  | .int k n, cs, h => by simp only [RepC] at h; subst h; simp [Value.oneCell']
  | .bool b, cs, h => by simp only [RepC] at h; subst h; simp [Value.oneCell']
  | .str s, cs, h => by simp only [RepC] at h; subst h; simp [Value.oneCell']
  | .agg xs, cs, h => RepL.one h
  | .sl sz xs tk, cs, h => by obtain ⟨a, cap, rfl, _⟩ := h; simp [Value.oneCell']
  | .arr t p off len sz, cs, h => by obtain ⟨_, _, _, _, _, _, _, _, _, _, _, _, rfl⟩ := h; simp [Value.oneCell']
  | .ptr t p, cs, h => by obtain ⟨_, _, _, _, rfl⟩ := h; simp [Value.oneCell']
  | .nilp, cs, h => by simp only [RepC] at h; subst h; simp [Value.oneCell']
  | .box x, cs, h => by obtain ⟨_, _, _, rfl, _⟩ := h; simp [Value.oneCell']
  | .map t, cs, h => by obtain ⟨_, rfl⟩ := h; simp [Value.oneCell']
  | .nilmap, cs, h => by simp only [RepC] at h; subst h; simp [Value.oneCell']
  | .mapv ks vs, cs, h => by obtain ⟨_, _, _, rfl, _⟩ := h; simp [Value.oneCell']
  | .fn f a b, cs, h => by obtain ⟨_, _, rfl, _⟩ := h; simp [Value.oneCell']
  | .nilfn, cs, h => by simp only [RepC] at h; subst h; simp [Value.oneCell']
  | .tup _, cs, h => by simp [RepC] at h
  | .opt _ _, cs, h => by simp [RepC] at h
theorem RepL.one {σ : St} : ∀ {xs : List V} {cs : List Value}, RepL σ xs cs → ∀ c ∈ cs, c.oneCell' = true
  | [], cs, h => by have : cs = [] := h; subst this; simp
  | x :: xs, cs, ⟨c, d, h1, h2, h3⟩ => by
    subst h1
    intro y hy
    rcases List.mem_append.1 hy with hy | hy
    · exact RepC.one h2 y hy
    · exact RepL.one h3 y hy
end

/-- A part put in the place of another one. -/
theorem rep_setAt {σ : St} : ∀ {p : List Nat} {v y x v' : V} {cs c : List Value} {o : Nat}, RepC σ v cs → v.at p = some y → v.setAt p x = some v' → RepC σ x c → x.shape = y.shape → v.shape.off p = some o →
    RepC σ v' (cs.take o ++ c ++ cs.drop (o + c.length)) ∧ v'.shape = v.shape
  | [], v, y, x, v', cs, c, o, hr, h1, h2, hc, hs, ho => by
    have e1 : v = y := by cases v <;> simpa [V.at] using h1
    have e2 : x = v' := by cases v <;> simpa [V.setAt] using h2
    have e3 : o = 0 := by cases hv : v.shape <;> rw [hv] at ho <;> simpa [Sh.off] using ho.symm
    subst e1; subst e2; subst e3
    have : c.length = cs.length := by rw [RepC.length _ _ hc, RepC.length _ _ hr, hs]
    exact ⟨by simpa [this] using hc, hs⟩
  | i :: p, v, y, x, v', cs, c, o, hr, h1, h2, hc, hs, ho => by
    cases v <;> simp only [V.at, reduceCtorEq] at h1
    rename_i xs
    split at h1
    · rename_i z hz
      simp only [V.setAt, hz, Option.map_eq_some_iff] at h2
      obtain ⟨z', h3, rfl⟩ := h2
      rw [V.shape_agg] at ho
      simp only [Sh.off, V.shapeL_get hz, Option.map_eq_some_iff, V.shapeL_take] at ho
      obtain ⟨o', h4, rfl⟩ := ho
      have hr' : RepL σ xs cs := hr
      have hz' := RepL.get hr' hz
      have hle := RepL.get_le hr' hz
      obtain ⟨k1, k2⟩ := rep_setAt hz' h1 h3 hc hs h4
      obtain ⟨o2, m1, m2, m3, m4⟩ := rep_at hz' h1
      rw [h4] at m1
      cases m1
      have hlz : ((cs.drop (Sh.sizeL (V.shapeL (xs.take i)))).take z.shape.size).length = z.shape.size := RepC.length _ _ hz'
      rw [hlz] at m3
      have hcl : c.length = y.shape.size := by rw [RepC.length _ _ hc, hs]
      have := RepL.set hr' hz k1 (by rw [k2])
      refine ⟨?_, ?_⟩
      · show RepL σ _ _
        refine Eq.mp (congrArg _ ?_) this
        have hl2 : (((cs.drop (Sh.sizeL (V.shapeL (xs.take i)))).take z.shape.size).take o' ++ c ++ ((cs.drop (Sh.sizeL (V.shapeL (xs.take i)))).take z.shape.size).drop (o' + c.length)).length = z.shape.size := by
          simp only [List.length_append, List.length_take, List.length_drop, hlz]
          simp only [List.length_take, List.length_drop] at hlz
          omega
        rw [hl2]
        apply List.ext_getElem?
        intro j
        simp only [List.append_assoc, List.getElem?_append, List.length_take, List.length_drop, List.getElem?_take, List.getElem?_drop]
        repeat' split
        all_goals first | rfl | omega | (congr 1; omega) | skip
      · rw [V.shape_agg, V.shape_agg]
        congr 1
        rw [V.shapeL_eq, V.shapeL_eq, List.map_set, k2]
        apply List.ext_getElem?
        intro j
        rw [List.getElem?_set]
        split
        · rename_i e
          subst e
          obtain ⟨hi, hz2⟩ := List.getElem?_eq_some_iff.1 hz
          simp [hi, ← hz2]
        · rfl
    · cases h1
end Go.Abs
end

section
namespace Go.Abs
open Go

def bytesOf (P : Program) (t : TypeId) (n : Nat) : Bool := match P.underlying t with
  | some (.slice e) => bytesIs P e n
  | _ => false

def zeroSl (P : Program) (t : TypeId) (z : V) : Bool := match P.underlying t with
  | some (.slice e) => zeroIs P e z
  | _ => false

def hasZero (P : Program) (t : TypeId) : Bool := match P.underlying t with
  | some (.slice e) => match P.info? e with | some i => (match i.zero with | some z => z.cells.size == i.size | none => false) | none => false
  | _ => false

/-- Does an operation that makes or turns memory stand for this one? -/
def chkEff (P : Program) (o : Op) : COp → Bool
  | .alloc z => match o with
    | .alloc t => zeroIs P t z
    | _ => false
  | .box x => match o with
    | .box _ y => chkOpd y x
    | _ => false
  | .store sz b x => match o with
    | .store t a y => chkOpd a b && chkOpd y x && szIs P t sz
    | _ => false
  | .append sz bytes x y => match o with
    | .call { callee := .builtin .append, args, argTypes } => match args.toList, argTypes.toList with
      | [a, b], [t, u] => chkOpd a x && chkOpd b y && sliceOf P t sz && bytesOf P t bytes && hasZero P t && bytes != 0 && isDesc P u fun | .int _ => false | _ => true
      | _, _ => false
    | _ => false
  | .mkslA sz bytes z n => match o with
    | .makeSlice t l c => chkOpd l n && chkOpd c n && sliceOf P t sz && bytesOf P t bytes && bytes != 0 && zeroSl P t z
    | _ => false
  | .mkslR sz bytes z n c => match o with
    | .makeSlice t l c' => chkOpd l n && chkOpd c' c && sliceOf P t sz && bytesOf P t bytes && bytes != 0 && zeroSl P t z
    | _ => false
  | .mkmap => match o with
    | .makeMap _ none => true
    | _ => false
  | .mapup td m k v => match o with
    | .mapUpdate t a b c | .insert t a b c => chkOpd a m && chkOpd b k && chkOpd c v && (mapOfT P t td).isSome
    | _ => false
  | .nilSl neg x => match o with
    | .binOp op t a (.const (.slice none 0 0)) _ => op == (if neg then .neq else .eql) && chkOpd a x && isDesc P t fun | .slice _ => true | _ => false
    | _ => false
  | .appendA sz bytes z x y => match o with
    | .call { callee := .builtin .append, args, argTypes } => match args.toList, argTypes.toList with
      | [a, b], [t, u] => chkOpd a x && chkOpd b y && sliceOf P t sz && bytesOf P t bytes && zeroSl P t z && bytes != 0 && isDesc P u fun | .int _ => false | _ => true
      | _, _ => false
    | _ => false
  | .clear sz z x => match o with
    | .call { callee := .builtin .clear, args, argTypes } => match args.toList, argTypes.toList with
      | [a], [t] => chkOpd a x && sliceOf P t sz && zeroSl P t z
      | _, _ => false
    | _ => false
  | .copyA sz x y => match o with
    | .call { callee := .builtin .copy, args, argTypes } => match args.toList, argTypes.toList with
      | [a, b], (t :: _) => chkOpd a x && chkOpd b y && sliceOf P t sz
      | _, _ => false
    | _ => false
  | _ => false

section
variable {P : Program} {σ : St} {ρ : Nat → V} {a : Act} {o : Oper} {K : V → HP → Prop}

theorem noS_new (I : Inv σ) (w' : World) (x : Blk) (cap : Nat) (live : Bool) : ∀ o, ¬ (σ.ext w' (fun _ => False) x cap live).S σ.w.heap.size o := by
  rintro o (h | ⟨_, h⟩)
  · have := I.bound _ _ h; omega
  · exact h

/-- A new variable. -/
theorem does_cell (I : Inv σ) {e : Sem Next} {z : V} {c : Array Value} {t : TypeId} (hr : RepC σ z c.toList)
    (hrun : e.run P σ.w = .ok (.value (.pointer (some ⟨σ.w.heap.size, 0, none⟩))) { σ.w with heap := σ.w.heap.push (.cells c t (0, 0)) })
    (hK : K (.ptr σ.H.length []) (σ.H ++ [.cell z])) : Does P e σ K := by
  let w' : World := { σ.w with heap := σ.w.heap.push (.cells c t (0, 0)) }
  have htr := σ.ext_tr I (w' := w') (fun _ => False) (.cell z) 0 true rfl rfl rfl rfl
  have hg := σ.ext_g_new w' (fun _ => False) (.cell z) 0 true
  refine ⟨.ptr σ.H.length [], _, σ.ext w' (fun _ => False) (.cell z) 0 true, .inl hrun, σ.ext_inv I (w' := w') _ _ _ _ rfl rfl rfl rfl ⟨c, t, (0, 0), ?_, fun o _ h => by simp at h, RepC.mono htr.le z _ hr, ?_⟩, ?_, htr, hK⟩
  · rw [hg.1]; show w'.heap[_]? = _; simp [w']
  · rw [hg.1]; exact noS_new I w' _ 0 true
  · exact repV_ptr.2 ⟨z.shape, 0, shapeAt_cell (by simp [St.ext]), by cases z.shape <;> rfl, by rw [hg.1]⟩

theorem eff_alloc {z : V} (hk : chkEff P o.op (.alloc z) = true) (I : Inv σ) (he : eve (.alloc z) (val ρ) σ.H K) : Does P (execOp a.eval o) σ K := by
  cases ho : o.op <;> simp only [ho, chkEff] at hk <;> first | (cases hk; done) | skip
  rename_i t
  obtain ⟨u, hz, hrun⟩ := run_zero hk
  refine does_cell I (zero_cells hz σ) (t := t) ?_ he
  simp [execOp, ho, Instr.alloc, hrun, newVar, newRow]

theorem eff_box {x : Opd} (hk : chkEff P o.op (.box x) = true) (I : Inv σ) (hf : RepF σ ρ a) (ht : there ρ [x] = true) (he : eve (.box x) (val ρ) σ.H K) : Does P (execOp a.eval o) σ K := by
  rw [there_cons] at ht
  cases ho : o.op <;> simp only [ho, chkEff] at hk <;> first | (cases hk; done) | skip
  rename_i t y
  have r1 := opd_rep hf hk ht.1
  obtain ⟨hp, he⟩ := he
  refine does_cell I (r1.repC hp) (t := t) ?_ he
  simp [execOp, ho, Instr.box, newVar, newRow]

theorem eff_store {sz : Nat} {b x : Opd} (hk : chkEff P o.op (.store sz b x) = true) (I : Inv σ) (hf : RepF σ ρ a) (ht : there ρ [b, x] = true) (he : eve (.store sz b x) (val ρ) σ.H K) : Does P (execOp a.eval o) σ K := by
  simp only [there_cons] at ht
  cases ho : o.op <;> simp only [ho, chkEff] at hk <;> first | (cases hk; done) | skip
  rename_i t a' y'
  simp only [Bool.and_eq_true] at hk
  obtain ⟨⟨h1, h2⟩, h3⟩ := hk
  have r1 := opd_rep hf h1 ht.1
  have r2 := opd_rep hf h2 ht.2.1
  simp only [eve] at he
  split at he
  · rename_i t' p e1
    rw [e1] at r1
    split at he
    · rename_i v hv
      split at he
      · rename_i y v' hy hv'
        obtain ⟨hp, hs, hsz, hK⟩ := he
        obtain ⟨sh, off, g1, g2, g3⟩ := repV_ptr.1 r1
        obtain ⟨cs, e, fr, k1, k2, k3, k4⟩ := I.blk t' _ hv
        rw [shapeAt_cell hv] at g1
        cases g1
        have hrc := r2.repC hp
        have hcl := RepC.length _ _ hrc
        obtain ⟨m1, m2⟩ := rep_setAt k3 hy hv' hrc hs g2
        obtain ⟨o', k5, k6, k7, k8⟩ := rep_at k3 hy
        rw [k5] at g2
        cases g2
        rw [hs] at hcl
        obtain ⟨w', q1, q2, q3, q4, q5, q6, cur', q7, q8⟩ := run_storeCells (P := P) (a.eval y').cells.toList off 0 cs σ.w k1 k2 (by rw [hcl]; simp at k7 ⊢; omega) (RepC.one hrc)
        have hw : Wr σ w' t' := ⟨q2, q3, q4, q5, q6⟩
        have hk' : sameKind (.cell v) (.cell v') := m2
        have hrun : (storeVar t ⟨σ.g.b t', off, none⟩ (a.eval y')).run P σ.w = .ok () w' := by
          simp only [storeVar, Sem.run_bind, run_size h3, Result.andThen_ok]
          have : (a.eval y').cells.size = sz := by rw [← hsz, ← hcl]; simp
          simp [this, q1]
        have hle := (St.wr_tr I hw hv hk' σ.H.length).le
        refine ⟨.junk, undef, σ.wr w' t' (.cell v'), .inr ⟨?_, rfl⟩, St.wr_inv I hw hv hk' ?_, trivial, St.wr_tr I hw hv hk' _, hK⟩
        · simp only [execOp, ho, Instr.storeAt, g3, Sem.run_bind]
          simp [Instr.sureAddr, hrun, St.wr]
        · refine ⟨cur', e, fr, q7, fun o hlt => ?_, ?_, fun o => noS I hv hk' o⟩
          · refine k2 o ?_
            have := congrArg List.length q8
            simp at this k7 hcl
            omega
          · rw [q8]
            exact RepC.mono hle _ _ (by simpa using m1)
      · exact he.elim
    · exact he.elim
  · exact he.elim

theorem eff_mkmap (hk : chkEff P o.op .mkmap = true) (I : Inv σ) (he : eve .mkmap (val ρ) σ.H K) : Does P (execOp a.eval o) σ K := by
  cases ho : o.op <;> simp only [ho, chkEff] at hk <;> first | (cases hk; done) | skip
  rename_i t r
  cases r <;> simp only at hk <;> first | (cases hk; done) | skip
  let w' : World := { σ.w with heap := σ.w.heap.push (.map #[] 0) }
  have htr := σ.ext_tr I (w' := w') (fun _ => False) (.map [] []) 0 true rfl rfl rfl rfl
  have hg := σ.ext_g_new w' (fun _ => False) (.map [] []) 0 true
  refine ⟨.map σ.H.length, .map (some σ.w.heap.size), σ.ext w' (fun _ => False) (.map [] []) 0 true, .inl ?_, σ.ext_inv I (w' := w') _ _ _ _ rfl rfl rfl rfl ⟨#[], 0, ?_, rfl, rfl, ?_⟩, ?_, htr, he⟩
  · simp [execOp, ho, Instr.makeMap, St.ext, w']
  · rw [hg.1]; show w'.heap[_]? = _; simp [w']
  · rw [hg.1]; exact noS_new I w' _ 0 true
  · exact repV_map.2 ⟨⟨[], [], by simp [St.ext]⟩, by rw [hg.1]⟩
end
end Go.Abs
end
