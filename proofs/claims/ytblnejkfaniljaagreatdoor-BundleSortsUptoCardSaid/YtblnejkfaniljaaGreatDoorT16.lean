/-
  Abstract code: the contract of a function that turns what it was handed. Whole numbers of the program's kinds: what wraps and what does not. Abstract code: a writer's bytes as the beginning of a row. Abstract code: an empty slice within a cell is the beginning of a row. Words of 32 bits: the model's operations as those of UInt32. The numbers of the program's functions, by program.
  Conditions: those that stand ahead of each theorem; no more.
-/
import Derived.Test.YtblnejkfaniljaaGreatDoorProg
import Derived.KernelRfl
import Derived.Test.YtblnejkfaniljaaGreatDoorT15

section
namespace Go.Abs
open Go

mutual
theorem RepC.isUnder {σ : St} : ∀ (v : V) (cs : List Value), RepC σ v cs → v.under σ.H.length = true
  | .agg xs, cs, h => by simp only [V.under]; exact RepL.isUnder xs cs (by simpa only [RepC] using h)
  | .sl sz xs tk, cs, h => by
    obtain ⟨a, cap, _, _, h3, h4⟩ := h
    simp only [V.under, Bool.and_eq_true]
    refine ⟨?_, ?_⟩
    · rcases h4 with rfl | ⟨b, o, _, h5⟩
      · rfl
      · exact RepE.isUnder sz xs b o h5
    · cases tk with
      | row t => obtain ⟨m, h5, _⟩ := h3; simpa using (List.getElem?_eq_some_iff.1 h5).1
      | _ => rfl
  | .arr t .., cs, h => by
    obtain ⟨sh, o, l, cap, ad, h1, _⟩ := h
    unfold shapeAt at h1
    split at h1
    · rename_i v hv; simpa [V.under] using (List.getElem?_eq_some_iff.1 hv).1
    · cases h1
  | .ptr t p, cs, h => by
    obtain ⟨sh, o, h1, _⟩ := h
    unfold shapeAt at h1
    split at h1
    · rename_i v hv; simpa [V.under] using (List.getElem?_eq_some_iff.1 hv).1
    · cases h1
  | .map t, cs, h => by obtain ⟨⟨ks, vs, h1⟩, _⟩ := h; simpa [V.under] using (List.getElem?_eq_some_iff.1 h1).1
  | .box x, cs, h => by obtain ⟨b, o, c, _, h2, _⟩ := h; simp only [V.under]; exact RepC.isUnder x c h2
  | .mapv ks vs, cs, h => by
    obtain ⟨b, es, clk, _, _, _, h4, h5⟩ := h
    simp only [V.under, Bool.and_eq_true]
    exact ⟨RepVs.isUnder ks _ h4, RepVs.isUnder vs _ h5⟩
  | .fn f xs ys, cs, h => by
    obtain ⟨cf, cc, _, h2, h3⟩ := h
    simp only [V.under, Bool.and_eq_true]
    exact ⟨RepVs.isUnder xs _ h2, RepVs.isUnder ys _ h3⟩
  | .junk, _, _ | .int .., _, _ | .bool _, _, _ | .str _, _, _ | .nilp, _, _ | .nilmap, _, _ | .nilfn, _, _ => rfl
  | .tup _, _, h => by simp [RepC] at h
  | .opt _ _, _, h => by simp [RepC] at h
theorem RepL.isUnder {σ : St} : ∀ (xs : List V) (cs : List Value), RepL σ xs cs → V.underL σ.H.length xs = true
  | [], _, _ => rfl
  | x :: xs, _, ⟨c, d, _, h2, h3⟩ => by simp only [V.underL, Bool.and_eq_true]; exact ⟨RepC.isUnder x c h2, RepL.isUnder xs d h3⟩
theorem RepE.isUnder {σ : St} (sz : Nat) : ∀ (xs : List V) (b o : Nat), RepE σ sz xs b o → V.underL σ.H.length xs = true
  | [], _, _, _ => rfl
  | x :: xs, b, o, ⟨⟨c, _, h2, _⟩, h4⟩ => by simp only [V.underL, Bool.and_eq_true]; exact ⟨RepC.isUnder x c h2, RepE.isUnder sz xs b (o + sz) h4⟩
theorem RepVs.isUnder {σ : St} : ∀ (xs : List V) (cs : List Value), RepVs σ xs cs → V.underL σ.H.length xs = true
  | [], _, _ => rfl
  | x :: xs, _, ⟨c, d, l, _, h2, _, h4⟩ => by simp only [V.underL, Bool.and_eq_true]; exact ⟨RepC.isUnder x l h2, RepVs.isUnder xs d h4⟩
end

theorem underH_iff {m : Nat} : ∀ {H : HP}, Abs.underH m H = true ↔ (∀ (t : Nat) (v : V), H[t]? = some (Blk.cell v) → v.under m = true) ∧ ∀ (t : Nat) (ks vs : List V), H[t]? = some (Blk.map ks vs) → V.underL m ks = true ∧ V.underL m vs = true
  | [] => by simp [underH]
  | x :: H => by
    refine ⟨fun h => ⟨fun t v hv => (underH_get (t := t) h).1 v hv, fun t ks vs hv => (underH_get (t := t) h).2 ks vs hv⟩, fun ⟨h1, h2⟩ => ?_⟩
    have ih := (underH_iff (m := m) (H := H)).2 ⟨fun t v hv => h1 (t + 1) v (by simpa using hv), fun t ks vs hv => h2 (t + 1) ks vs (by simpa using hv)⟩
    cases x with
    | cell v => simp only [underH, Bool.and_eq_true]; exact ⟨h1 0 v rfl, ih⟩
    | map ks vs => simp only [underH, Bool.and_eq_true]; exact ⟨⟨(h2 0 ks vs rfl).1, (h2 0 ks vs rfl).2⟩, ih⟩
    | row n sz => simpa [underH] using ih
    | dead => simpa [underH] using ih

theorem Inv.underH {σ : St} (I : Inv σ) : underH σ.H.length σ.H = true := by
  refine underH_iff.2 ⟨fun t v hv => ?_, fun t ks vs hv => ?_⟩
  · obtain ⟨c, e, fr, _, _, h3, _⟩ := I.blk t _ hv
    exact h3.isUnder
  · obtain ⟨es, clk, _, h2, h3, _⟩ := I.blk t _ hv
    exact ⟨h2.isUnder, h3.isUnder⟩

theorem underH_set {m t : Nat} {H : HP} {v : V} (h : Abs.underH m H = true) (hv : v.under m = true) : Abs.underH m (H.set t (.cell v)) = true := by
  obtain ⟨h1, h2⟩ := underH_iff.1 h
  refine underH_iff.2 ⟨fun i u hu => ?_, fun i ks vs hu => ?_⟩
  · by_cases e : t = i
    · subst e
      by_cases hl : t < H.length
      · rw [List.getElem?_set_self hl] at hu; cases hu; exact hv
      · rw [List.getElem?_eq_none (by simpa using hl)] at hu; cases hu
    · rw [List.getElem?_set_ne e] at hu; exact h1 i u hu
  · by_cases e : t = i
    · subst e
      by_cases hl : t < H.length
      · rw [List.getElem?_set_self hl] at hu; cases hu
      · rw [List.getElem?_eq_none (by simpa using hl)] at hu; cases hu
    · rw [List.getElem?_set_ne e] at hu; exact h2 i ks vs hu

theorem underH_setRow {m t n sz : Nat} {H : HP} (h : Abs.underH m H = true) : Abs.underH m (H.set t (.row n sz)) = true := by
  obtain ⟨h1, h2⟩ := underH_iff.1 h
  refine underH_iff.2 ⟨fun i u hu => ?_, fun i ks vs hu => ?_⟩
  · by_cases e : t = i
    · subst e
      by_cases hl : t < H.length
      · rw [List.getElem?_set_self hl] at hu; cases hu
      · rw [List.getElem?_eq_none (by simpa using hl)] at hu; cases hu
    · rw [List.getElem?_set_ne e] at hu; exact h1 i u hu
  · by_cases e : t = i
    · subst e
      by_cases hl : t < H.length
      · rw [List.getElem?_set_self hl] at hu; cases hu
      · rw [List.getElem?_eq_none (by simpa using hl)] at hu; cases hu
    · rw [List.getElem?_set_ne e] at hu; exact h2 i ks vs hu

theorem underH_setMap {m t : Nat} {H : HP} {ks vs : List V} (h : Abs.underH m H = true) (hk : V.underL m ks = true) (hv : V.underL m vs = true) : Abs.underH m (H.set t (.map ks vs)) = true := by
  obtain ⟨h1, h2⟩ := underH_iff.1 h
  refine underH_iff.2 ⟨fun i u hu => ?_, fun i a b hu => ?_⟩
  · by_cases e : t = i
    · subst e
      by_cases hl : t < H.length
      · rw [List.getElem?_set_self hl] at hu; cases hu
      · rw [List.getElem?_eq_none (by simpa using hl)] at hu; cases hu
    · rw [List.getElem?_set_ne e] at hu; exact h1 i u hu
  · by_cases e : t = i
    · subst e
      by_cases hl : t < H.length
      · rw [List.getElem?_set_self hl] at hu; cases hu; exact ⟨hk, hv⟩
      · rw [List.getElem?_eq_none (by simpa using hl)] at hu; cases hu
    · rw [List.getElem?_set_ne e] at hu; exact h2 i a b hu

section
variable {n0 : Nat} {H : HP} {F : Option (V → V)}
mutual
theorem fzW_below : ∀ v : V, v.under n0 = true → fzW (fun t => decide (n0 ≤ t)) H F v = v
  | .agg xs, h => by simp only [fzW]; rw [fzL_below xs (by simpa only [V.under] using h)]
  | .sl sz xs tk, h => by
    simp only [V.under, Bool.and_eq_true] at h
    simp only [fzW]
    rw [fzL_below xs h.1]
    cases tk with
    | row t => have : t < n0 := by simpa using h.2
               simp [show ¬ n0 ≤ t by omega]
    | _ => rfl
  | .arr t .., h => by have : t < n0 := by simpa [V.under] using h
                       simp [fzW, show ¬ n0 ≤ t by omega]
  | .ptr t .., h => by have : t < n0 := by simpa [V.under] using h
                       simp [fzW, show ¬ n0 ≤ t by omega]
  | .map t, h => by have : t < n0 := by simpa [V.under] using h
                    simp [fzW, show ¬ n0 ≤ t by omega]
  | .box x, h => by simp only [fzW]; rw [fzW_below x (by simpa only [V.under] using h)]
  | .mapv ks vs, h => by
    simp only [V.under, Bool.and_eq_true] at h
    simp only [fzW]
    rw [fzL_below ks h.1, fzL_below vs h.2]
  | .fn f a b, h => by
    simp only [V.under, Bool.and_eq_true] at h
    simp only [fzW]
    rw [fzL_below a h.1, fzL_below b h.2]
  | .tup vs, h => by simp only [fzW]; rw [fzL_below vs (by simpa only [V.under] using h)]
  | .opt g v, h => by simp only [fzW]; rw [fzW_below v (by simpa only [V.under] using h)]
  | .junk, _ | .int .., _ | .bool _, _ | .str _, _ | .nilp, _ | .nilmap, _ | .nilfn, _ => by simp [fzW]
theorem fzL_below : ∀ xs : List V, V.underL n0 xs = true → fzL (fun t => decide (n0 ≤ t)) H F xs = xs
  | [], _ => rfl
  | x :: xs, h => by
    simp only [V.underL, Bool.and_eq_true] at h
    simp only [fzL]
    rw [fzW_below x h.1, fzL_below xs h.2]
end
theorem fz_below (n : Nat) (v : V) (h : v.under n0 = true) : fz (fun t => decide (n0 ≤ t)) H n v = v := by cases n <;> exact fzW_below v h

theorem fzH_take {H' L : HP} {n : Nat} (hl : H'.length = n0) (hu : Abs.underH n0 H' = true) : (fzH (fun t => decide (n0 ≤ t)) (H' ++ L) n).take n0 = H' := by
  apply List.ext_getElem?
  intro t
  rw [List.getElem?_take]
  split
  · rename_i ht
    rw [fzH_get, List.getElem?_append_left (by omega)]
    cases hx : H'[t]? with
    | none => rfl
    | some x =>
      have hd : decide (n0 ≤ t) = false := by simp; omega
      obtain ⟨h1, h2⟩ := underH_iff.1 hu
      cases x with
      | cell v => simp only [Option.map_some, fzBlk, hd]; rw [fz_below _ _ (h1 t v hx)]; rfl
      | map ks vs =>
        obtain ⟨g1, g2⟩ := h2 t ks vs hx
        have e1 : ks.map (fz (fun t => decide (n0 ≤ t)) (H' ++ L) n) = ks := by
          conv => rhs; rw [← List.map_id ks]
          exact List.map_congr_left fun x hx => fz_below _ _ ((underL_all n0 ks).1 g1 x hx)
        have e2 : vs.map (fz (fun t => decide (n0 ≤ t)) (H' ++ L) n) = vs := by
          conv => rhs; rw [← List.map_id vs]
          exact List.map_congr_left fun x hx => fz_below _ _ ((underL_all n0 vs).1 g2 x hx)
        simp only [Option.map_some, fzBlk, hd, e1, e2]; rfl
      | row m sz => simp only [Option.map_some, fzBlk, hd]; rfl
      | dead => rfl
  · rename_i ht
    rw [List.getElem?_eq_none (by omega)]
where
  underL_all (m : Nat) (xs : List V) : V.underL m xs = true ↔ ∀ x ∈ xs, x.under m = true := by
    induction xs with
    | nil => simp [V.underL]
    | cons x xs ih => simp [V.underL, ih]
end

/-- What the body must come to: what there was, turned, and what is new behind it. -/
def RetS (rd : List RD) (n0 : Nat) (Q : V → HP → Prop) (e : Ex) (tm : TM) (H : HP) : Prop :=
  (e = .normal ∨ e = .ret) ∧ match retOf tm H rd with
    | some (c, v) => c ∧ (fz (fun t => decide (n0 ≤ t)) H 8 v).under n0 = true ∧ ∃ H' L, H = H' ++ L ∧ H'.length = n0 ∧ underH n0 H' = true ∧ Q (fz (fun t => decide (n0 ≤ t)) H 8 v) H'
    | none => False

theorem RetS.toG {rd : List RD} {n0 : Nat} {Q : V → HP → Prop} {e : Ex} {tm : TM} {H : HP} (h : RetS rd n0 Q e tm H) : RetG rd n0 Q e tm H := by
  obtain ⟨h1, h2⟩ := h
  refine ⟨h1, ?_⟩
  cases hr : retOf tm H rd with
  | none => rw [hr] at h2; exact h2
  | some q =>
    obtain ⟨c, v⟩ := q
    rw [hr] at h2
    obtain ⟨a1, a2, H', L, rfl, a4, a5, a6⟩ := h2
    refine ⟨a1, a2, ?_, by simp; omega, ?_⟩
    · rw [fzH_take a4 a5]; exact a5
    · rw [fzH_take a4 a5]; exact a6

/-- The contract of a function, by its body. -/
theorem TC.of_bodyR {P : Program} (hP : P.follows .mixedOrders = true) {f : FuncId} {cc : CC} {rd : List RD} {args : List V} {H : HP} {Q : V → HP → Prop} (hk : chkFn P f cc rd args.length = true)
    {R : Ex → TM → HP → Prop} (hR : ∀ e tm H', R e tm H' → RetG rd H.length Q e tm H') (h : AW P H.length cc R (enter args 0) H) : TC P f args H Q := by
  unfold chkFn at hk
  split at hk
  · rename_i fn hf
    simp only [Bool.and_eq_true, decide_eq_true_eq, bne_iff_ne, ne_eq] at hk
    obtain ⟨⟨⟨k1, k2⟩, k3⟩, k4⟩ := hk
    split at k1
    · rename_i c hb
      rintro σ cargs rfl I hargs
      have hcl := repAll_length hargs
      have hent : (callFunc f cargs.toArray).run P σ.w = .ok (.enter f cargs.toArray) σ.w := by
        simp [callFunc, hf, hb, k4]
      rw [hent]
      refine calls_of_wp hf hb ?_
      refine AW_sound (σ0 := σ) hP cc c k1 σ (enter args 0) _ R _ I ?_ ⟨by simp; omega, rfl⟩ (Tr.refl _ _) h ?_
      · refine enter_rep args cargs 0 (fun t => (cargs.toArray ++ Array.replicate (fn.ntmps - cargs.toArray.size) undef).getD t undef) hargs fun j v hj => ?_
        obtain ⟨h1, h2⟩ := List.getElem?_eq_some_iff.1 hj
        simp [Array.getD_eq_getD_getElem?, Array.getElem?_append, h1, h2]
      · rintro e tm a σ' I' hf' ha htr hRR
        obtain ⟨he, hr⟩ := hR _ _ _ hRR
        cases hret : retOf tm σ'.H rd with
        | none => rw [hret] at hr; exact hr.elim
        | some q =>
          obtain ⟨cnd, v⟩ := q
          rw [hret] at hr
          obtain ⟨hc, hu, huH, hlen, hQ⟩ := hr
          obtain ⟨cv, h1, h2⟩ := retOf_sound I' hf' k2 hret hc
          have hd : ∀ t, t < σ.H.length → decide (σ.H.length ≤ t) = false := fun t ht => by simp; omega
          have If := σ'.fz_inv (d := fun t => decide (σ.H.length ≤ t)) I' 8
          have ht1 := σ'.fz_tr (d := fun t => decide (σ.H.length ≤ t)) I' 8 σ.H.length hd
          have h3 := fz_repV (d := fun t => decide (σ.H.length ≤ t)) I' 8 8 v cv h2
          have ht2 := take_tr (σ'.fz (fun t => decide (σ.H.length ≤ t)) 8) σ.H.length
          have key : a.defers = [] ∧ ∃ v, (results fn a.tmps).run P σ'.w = .ok v σ'.w ∧ ∃ v', Ending.returned v = .returned v' ∧ ∃ r σ'', σ''.w = σ'.w ∧ Inv σ'' ∧ RepV σ'' r v' ∧ Tr σ.H.length σ σ'' ∧ Q r σ''.H :=
            ⟨ha.2, cv, h1, cv, rfl, _, { (σ'.fz (fun t => decide (σ.H.length ≤ t)) 8) with H := (fzH (fun t => decide (σ.H.length ≤ t)) σ'.H 8).take σ.H.length }, rfl, take_inv If huH, RepV.under (Same.take _ _) _ _ hu h3, (htr.trans ht1).trans ht2, hQ⟩
          rcases he with rfl | rfl <;> exact key
    · cases k1
  · cases hk


theorem TC.bodyS {P : Program} {f : FuncId} {cc : CC} {rd : List RD} {k : Nat} (hk : chkFn P f cc rd k = true) (hP : P.follows .mixedOrders = true) {args : List V} {H : HP} {Q : V → HP → Prop} (hn : args.length = k)
    (h : AW P H.length cc (RetS rd H.length Q) (enter args 0) H) : TC P f args H Q := TC.of_bodyR hP (hn ▸ hk) (fun _ _ _ => RetS.toG) h

theorem TC.under {P : Program} {f : FuncId} {args : List V} {H : HP} {Q : V → HP → Prop} (h : underH H.length H = true → TC P f args H Q) : TC P f args H Q :=
  fun σ cargs h1 h2 h3 => h (h1 ▸ h2.underH) σ cargs h1 h2 h3
attribute [simp] RetS
end Go.Abs
end

section
namespace Go.Abs
open Go

theorem wrap_i64 {n : Int} (h0 : -9223372036854775808 ≤ n) (h1 : n < 9223372036854775808) : IntKind.i64.wrap n = n := by
  unfold IntKind.wrap
  have e1 : (2 : Int) ^ 64 = 18446744073709551616 := by decide
  have e2 : (2 : Int) ^ (64 - 1) = 9223372036854775808 := by decide
  simp only [IntKind.bits, IntKind.signed, Bool.true_and, decide_eq_true_eq, e1, e2]
  split <;> omega

theorem wrap_u64 {n : Int} (h0 : 0 ≤ n) (h1 : n < 18446744073709551616) : IntKind.u64.wrap n = n := by
  unfold IntKind.wrap
  simp only [IntKind.bits, IntKind.signed]
  simp
  omega

theorem wrap_u8 (n : Int) : IntKind.u8.wrap n = n % 256 := by
  unfold IntKind.wrap
  simp [IntKind.bits, IntKind.signed]

theorem wrap_u32 (n : Int) : IntKind.u32.wrap n = n % 4294967296 := by
  unfold IntKind.wrap
  simp [IntKind.bits, IntKind.signed]

/-- The byte that a number leaves. -/
def b8 (n : Int) : UInt8 := UInt8.ofNat (n % 256).toNat

theorem b8_toNat (n : Int) : ((b8 n).toNat : Int) = n % 256 := by
  unfold b8
  rw [UInt8.toNat_ofNat']
  have h1 : 0 ≤ n % 256 := Int.emod_nonneg _ (by decide)
  have h2 : n % 256 < 256 := Int.emod_lt_of_pos _ (by decide)
  have : (n % 256).toNat % 2 ^ 8 = (n % 256).toNat := Nat.mod_eq_of_lt (by omega)
  rw [this]
  omega

theorem byteV_wrap (n : Int) : V.int .u8 (IntKind.u8.wrap n) = byteV (b8 n) := by
  unfold byteV
  rw [b8_toNat, wrap_u8]

@[simp] theorem bytesV_nil : bytesV [] = [] := rfl
@[simp] theorem bytesV_append (a b : List UInt8) : bytesV a ++ bytesV b = bytesV (a ++ b) := by simp [bytesV]
theorem bytesV_cons (a : UInt8) (b : List UInt8) : byteV a :: bytesV b = bytesV (a :: b) := rfl
@[simp] theorem bytesV_length (a : List UInt8) : (bytesV a).length = a.length := by simp [bytesV]
@[simp] theorem bytesV_shape (a : List UInt8) : ∀ x ∈ bytesV a, x.shape.size = 1 := bytesV_size a
@[simp] theorem byteV_plain (b : UInt8) : (byteV b).plain = true := rfl
@[simp] theorem byteV_shape (b : UInt8) : (byteV b).shape = .one := rfl
@[simp] theorem bytesV_isByte (a : List UInt8) : ∀ x ∈ bytesV a, V.isByte x = true := by
  intro x hx
  obtain ⟨b, _, rfl⟩ := List.mem_map.1 hx
  have := b.toNat_lt
  simp [byteV, V.isByte]
  omega
@[simp] theorem bytesV_byte (a : List UInt8) : (bytesV a).map V.byte = a := by
  induction a with
  | nil => rfl
  | cons b a ih =>
    simp only [bytesV, List.map_cons] at ih ⊢
    rw [ih]
    simp [byteV, V.byte]
@[simp] theorem fzL_bytesV (d : Nat → Bool) (H : HP) (F : Option (V → V)) (a : List UInt8) : fzL d H F (bytesV a) = bytesV a := by
  induction a with
  | nil => rfl
  | cons b a ih => rw [← bytesV_cons]; simp only [fzL, ih]; rfl
@[simp] theorem vwL_bytesV (a : List UInt8) : V.vwL (bytesV a) = bytesV a := by
  induction a with
  | nil => rfl
  | cons b a ih => rw [← bytesV_cons]; simp only [V.vwL, ih]; rfl
@[simp] theorem underL_bytesV (m : Nat) (a : List UInt8) : V.underL m (bytesV a) = true := by
  induction a with
  | nil => rfl
  | cons b a ih => rw [← bytesV_cons]; simp only [V.underL, ih]; rfl

theorem b8_emod (n : Int) : b8 (n % 256) = b8 n := by unfold b8; rw [Int.emod_emod_of_dvd _ (Int.dvd_refl 256)]
theorem b8_tmod {n : Int} (h : 0 ≤ n) : b8 (n.tmod 256) = b8 n := by rw [Int.tmod_eq_emod_of_nonneg h, b8_emod]
theorem wrap_u32_of {n : Int} (h0 : 0 ≤ n) (h1 : n < 4294967296) : IntKind.u32.wrap n = n := by rw [wrap_u32]; omega

/-- A word of 32 bits. -/
def wV (w : UInt32) : V := .int .u32 (w.toNat : Int)

theorem shr_u32 (w : UInt32) (n : Nat) (h : n < 32) : shr .u32 (w.toNat : Int) (n : Int) = ((w.toNat / 2 ^ n : Nat) : Int) := by
  unfold shr
  have : min (n : Int).toNat IntKind.u32.bits = n := by simp [IntKind.bits]; omega
  rw [this, Int.fdiv_eq_ediv_of_nonneg _ (by exact Int.le_of_lt (Int.pow_pos (by decide)))]
  norm_cast
end Go.Abs
end

section
namespace Go.Abs
open Go

/-- The memory of a writer at t, its bytes in row k. -/
def wH (H : HP) (t k : Nat) (s : List UInt8) : HP := (H.set k (.row s.length 1)).set t (.cell (.agg [.sl 1 (bytesV s) (.row k)]))

section
variable {H : HP} {t k : Nat} {s e : List UInt8}
theorem wH_length : (wH H t k s).length = H.length := by simp [wH]
theorem wH_t (ht : t < H.length) : (wH H t k s)[t]? = some (.cell (.agg [.sl 1 (bytesV s) (.row k)])) := by
  unfold wH; rw [List.getElem?_set_self (by simpa using ht)]
theorem wH_k (hk : k < H.length) (hn : t ≠ k) : (wH H t k s)[k]? = some (.row s.length 1) := by
  unfold wH; rw [List.getElem?_set_ne hn, List.getElem?_set_self hk]
theorem wH_ne {i : Nat} (h1 : i ≠ t) (h2 : i ≠ k) : (wH H t k s)[i]? = H[i]? := by
  unfold wH; rw [List.getElem?_set_ne (Ne.symm h1), List.getElem?_set_ne (Ne.symm h2)]
theorem wH_set {n : Nat} (hn : t ≠ k) (h : n = e.length) : ((wH H t k s).set k (.row n 1)).set t (.cell (.agg [.sl 1 (bytesV e) (.row k)])) = wH H t k e := by
  subst h
  unfold wH
  rw [List.set_comm _ _ hn, List.set_set, List.set_set]
theorem wH_wH (hn : t ≠ k) : wH (wH H t k s) t k e = wH H t k e := wH_set hn rfl
theorem wH_append {L : HP} (ht : t < H.length) (hk : k < H.length) : wH (H ++ L) t k s = wH H t k s ++ L := by
  unfold wH
  rw [List.set_append_left _ _ hk, List.set_append_left _ _ (by simpa using ht)]
theorem wH_under {m : Nat} (hU : underH m H = true) (hk : k < m) : underH m (wH H t k s) = true := by
  unfold wH
  exact underH_set (underH_setRow hU) (by simp [V.under, V.underL, hk])
end

theorem TC.open {P : Program} {f : FuncId} {args : List V} {H : HP} {Q : V → HP → Prop} {t : Nat} (hH : H[t]? = some (.cell (.agg [.sl 1 [] .full])))
    (h : TC P f args (wH (H ++ [.row 0 1]) t H.length []) Q) : TC P f args H Q := by
  rintro σ cargs rfl I hargs
  have ht : t < σ.H.length := (List.getElem?_eq_some_iff.1 hH).1
  have htr1 := σ.ext0_tr (.row 0 1) 0 0 ⟨0, 1, rfl⟩
  have I1 := σ.ext0_inv I 0 1 0 0
  obtain ⟨σ1, hσ1⟩ : ∃ σ1 : St, σ1 = { σ with g := σ.g.put σ.H.length 0 0 false, H := σ.H ++ [.row 0 1] } := ⟨_, rfl⟩
  rw [← hσ1] at I1 htr1
  have hw1 : σ1.w = σ.w := by rw [hσ1]
  have hlv : σ1.g.live σ.H.length = false := by rw [hσ1]; exact put_eq.2.2
  have hH1 : σ1.H = σ.H ++ [.row 0 1] := by rw [hσ1]
  have h1t : σ1.H[t]? = some (.cell (.agg [.sl 1 [] .full])) := by rw [hH1]; exact getElem?_snoc_old hH
  have h1k : σ1.H[σ.H.length]? = some (.row 0 1) := by rw [hH1]; simp
  have h1l : t < σ1.H.length := (List.getElem?_eq_some_iff.1 h1t).1
  let nb : Blk := .cell (.agg [.sl 1 [] (.row σ.H.length)])
  have hg : ∀ i x, (σ1.H.set t nb)[i]? = some x → (i = t ∧ x = nb) ∨ (i ≠ t ∧ σ1.H[i]? = some x) := fun i x hx => set_row hx
  have hne : ∀ i, i ≠ t → (σ1.H.set t nb)[i]? = σ1.H[i]? := fun i hi => List.getElem?_set_ne (Ne.symm hi)
  have hse : (σ1.H.set t nb)[t]? = some nb := List.getElem?_set_self h1l
  have htr2 : ∀ n, Tr n σ1 { σ1 with H := σ1.H.set t nb } := by
    intro n
    refine ⟨rfl, rfl, rfl, Nat.le_refl _, fun _ _ _ => rfl, fun _ _ h => h, fun _ _ _ _ h => h, fun _ _ _ _ h => h, fun _ _ _ _ h => h, fun i hi => .inl ⟨i, ?_, rfl⟩, fun i v _ hv => ?_, fun i ks vs _ hv => ?_, fun i m sz _ hv => ?_⟩
    · unfold Res at hi ⊢
      dsimp only at hi
      by_cases e : i = t
      · subst e; rw [h1t]; trivial
      · rw [hne i e] at hi; exact hi
    · by_cases e : i = t
      · subst e; rw [h1t] at hv; cases hv; exact ⟨_, hse, rfl, rfl⟩
      · exact ⟨v, (hne i e).trans hv, rfl, rfl⟩
    · have e : i ≠ t := by rintro rfl; rw [h1t] at hv; cases hv
      exact ⟨ks, vs, (hne i e).trans hv, rfl⟩
    · have e : i ≠ t := by rintro rfl; rw [h1t] at hv; cases hv
      exact ⟨m, (hne i e).trans hv, .inr ⟨rfl, rfl, rfl, rfl⟩⟩
  have I2 : Inv { σ1 with H := σ1.H.set t nb } := by
    refine ⟨I1.bound, fun i x hx => ?_, fun i j hi hj e => I1.inj i j ?_ ?_ e⟩
    · rcases hg i x hx with ⟨rfl, rfl⟩ | ⟨hi, hx⟩
      · obtain ⟨c, e, fr, b1, b2, b3, b4⟩ := I1.blk i _ h1t
        refine ⟨c, e, fr, b1, b2, ?_, b4⟩
        obtain ⟨c1, d1, g1, ⟨a, cap, q1, q2, q3, q4⟩, g3⟩ := b3
        have q3 : cap = 0 := q3
        refine ⟨c1, d1, g1, ⟨a, cap, q1, q2, ⟨0, ?_, Nat.le_refl _, fun _ => ?_⟩, .inl rfl⟩, g3⟩
        · show (σ1.H.set i nb)[σ.H.length]? = _
          rw [hne _ (by omega)]; exact h1k
        · show if σ1.g.live σ.H.length then _ else _
          rw [hlv]; exact q3
      · exact BlkOk.keep (htr2 _).le ⟨rfl, rfl, rfl⟩ (fun o ho => ho) (fun _ _ _ => Iff.rfl) (I1.blk i x hx)
    · unfold Res at hi ⊢
      dsimp only at hi
      by_cases e : i = t
      · subst e; rw [h1t]; trivial
      · rw [hne i e] at hi; exact hi
    · unfold Res at hj ⊢
      dsimp only at hj
      by_cases e : j = t
      · subst e; rw [h1t]; trivial
      · rw [hne j e] at hj; exact hj
  have htr : Tr σ.H.length σ { σ1 with H := σ1.H.set t nb } := htr1.trans (htr2 _)
  have hHH : wH (σ.H ++ [.row 0 1]) t σ.H.length [] = σ1.H.set t nb := by
    unfold wH
    rw [hH1]
    congr 1
    exact List.ext_getElem? fun i => by
      by_cases e : σ.H.length = i
      · subst e; rw [List.getElem?_set_self (by simp)]; simp
      · rw [List.getElem?_set_ne e]
  have := h { σ1 with H := σ1.H.set t nb } cargs hHH.symm I2 (RepAll.mono htr.le _ _ hargs)
  dsimp only at this
  rw [hw1] at this
  refine this.mono ?_
  rintro c w' ⟨r, σ', a1, a2, a3, a4, a5⟩
  refine ⟨r, σ', a1, a2, a3, htr.trans (Tr.mono (n := (wH (σ.H ++ [.row 0 1]) t σ.H.length []).length) (hw1 ▸ a4) ?_), a5⟩
  rw [wH_length]; simp

/-- Do temporaries refer to what is below a place alone? -/
def underTM (m : Nat) : TM → Bool
  | [] => true
  | (_, v) :: r => v.under m && underTM m r

theorem underTM_lk {m : Nat} : ∀ {tm : TM}, underTM m tm = true → ∀ i, (lk tm i).under m = true
  | [], _, _ => rfl
  | (j, v) :: r, h, i => by
    simp only [underTM, Bool.and_eq_true] at h
    simp only [lk]
    split
    · exact h.1
    · exact underTM_lk h.2 i

/-- What is new and no more referred to is let go. -/
theorem Weak.cut {n0 : Nat} {tm : TM} {H L : HP} (hn : n0 ≤ H.length) (ht : underTM H.length tm = true) (hu : Abs.underH H.length H = true) : Weak n0 tm (H ++ L) tm H := by
  rintro σ a e I hf
  have htk : σ.H.take H.length = H := by rw [e]; simp
  refine ⟨{ σ with H := σ.H.take H.length }, rfl, htk, take_inv I (by rw [htk]; exact hu), fun i => RepV.under (Same.take σ H.length) _ _ (underTM_lk ht i) (hf i), (take_tr σ H.length).mono hn⟩
attribute [simp] underTM
end Go.Abs
end

section
namespace Go.Abs
open Go

theorem Weak.openAt {n0 : Nat} {tm : TM} {H : HP} (t : Nat) (p : List Nat) (sz : Nat) {v v' : V} (hH : H[t]? = some (.cell v)) (hv : v.at p = some (.sl sz [] .full)) (hs : v.setAt p (.sl sz [] (.row H.length)) = some v') :
    Weak n0 tm H tm (H.set t (.cell v') ++ [.row 0 sz]) := by
  rintro σ a rfl I hf
  have ht : t < σ.H.length := (List.getElem?_eq_some_iff.1 hH).1
  have htr1 := σ.ext0_tr (.row 0 sz) 0 0 ⟨0, sz, rfl⟩
  have I1 := σ.ext0_inv I 0 sz 0 0
  obtain ⟨σ1, hσ1⟩ : ∃ σ1 : St, σ1 = { σ with g := σ.g.put σ.H.length 0 0 false, H := σ.H ++ [.row 0 sz] } := ⟨_, rfl⟩
  rw [← hσ1] at I1 htr1
  have hw1 : σ1.w = σ.w := by rw [hσ1]
  have hlv : σ1.g.live σ.H.length = false := by rw [hσ1]; exact put_eq.2.2
  have hH1 : σ1.H = σ.H ++ [.row 0 sz] := by rw [hσ1]
  have h1t : σ1.H[t]? = some (.cell v) := by rw [hH1]; exact getElem?_snoc_old hH
  have h1k : σ1.H[σ.H.length]? = some (.row 0 sz) := by rw [hH1]; simp
  have h1l : t < σ1.H.length := (List.getElem?_eq_some_iff.1 h1t).1
  let nb : Blk := .cell v'
  have hse : (σ1.H.set t nb)[t]? = some nb := List.getElem?_set_self h1l
  have hne : ∀ i, i ≠ t → (σ1.H.set t nb)[i]? = σ1.H[i]? := fun i hi => List.getElem?_set_ne (Ne.symm hi)
  have hg : ∀ i x, (σ1.H.set t nb)[i]? = some x → (i = t ∧ x = nb) ∨ (i ≠ t ∧ σ1.H[i]? = some x) := fun i x hx => by
    by_cases e : i = t
    · subst e; rw [hse] at hx; cases hx; exact .inl ⟨rfl, rfl⟩
    · rw [hne i e] at hx; exact .inr ⟨e, hx⟩
  obtain ⟨c, e, fr, b1, b2, b3, b4⟩ := I1.blk t _ h1t
  obtain ⟨o, o1, o2, o3, o4⟩ := rep_at b3 hv
  have hsz1 : (V.sl sz [] .full).shape.size = 1 := rfl
  rw [hsz1] at o2 o3
  have hc1 : RepC σ1 (.sl sz [] (.row σ.H.length)) ((c.toList.drop o).take 1) := by
    obtain ⟨ad, cap, q1, q2, q3, q4⟩ := o2
    have q3 : cap = 0 := q3
    refine ⟨ad, cap, q1, q2, ⟨0, h1k, Nat.le_refl _, fun _ => ?_⟩, .inl rfl⟩
    show if σ1.g.live σ.H.length then _ else _
    rw [hlv]; exact q3
  have hl1 : ((c.toList.drop o).take 1).length = 1 := RepC.length _ _ o2
  obtain ⟨r1, hshape⟩ := rep_setAt b3 hv hs hc1 rfl o1
  rw [hl1] at r1
  have hre : c.toList.take o ++ (c.toList.drop o).take 1 ++ c.toList.drop (o + 1) = c.toList := by
    rw [List.append_assoc, ← List.drop_drop, List.take_append_drop, List.take_append_drop]
  rw [hre] at r1
  have htr2 : ∀ n, Tr n σ1 { σ1 with H := σ1.H.set t nb } := by
    intro n
    refine ⟨rfl, rfl, rfl, Nat.le_refl _, fun _ _ _ => rfl, fun _ _ h => h, fun _ _ _ _ h => h, fun _ _ _ _ h => h, fun _ _ _ _ h => h, fun i hi => .inl ⟨i, ?_, rfl⟩, fun i u _ hu => ?_, fun i ks vs _ hu => ?_, fun i m sz' _ hu => ?_⟩
    · unfold Res at hi ⊢
      dsimp only at hi
      by_cases e : i = t
      · subst e; rw [h1t]; trivial
      · rw [hne i e] at hi; exact hi
    · by_cases e : i = t
      · subst e; rw [h1t] at hu; cases hu; exact ⟨_, hse, hshape, rfl⟩
      · exact ⟨u, (hne i e).trans hu, rfl, rfl⟩
    · have e : i ≠ t := by rintro rfl; rw [h1t] at hu; cases hu
      exact ⟨ks, vs, (hne i e).trans hu, rfl⟩
    · have e : i ≠ t := by rintro rfl; rw [h1t] at hu; cases hu
      exact ⟨m, (hne i e).trans hu, .inr ⟨rfl, rfl, rfl, rfl⟩⟩
  have I2 : Inv { σ1 with H := σ1.H.set t nb } := by
    refine ⟨I1.bound, fun i x hx => ?_, fun i j hi hj e => I1.inj i j ?_ ?_ e⟩
    · rcases hg i x hx with ⟨rfl, rfl⟩ | ⟨hi, hx⟩
      · exact ⟨c, e, fr, b1, b2, RepC.mono (htr2 σ1.H.length).le _ _ r1, b4⟩
      · exact BlkOk.keep (htr2 _).le ⟨rfl, rfl, rfl⟩ (fun o ho => ho) (fun _ _ _ => Iff.rfl) (I1.blk i x hx)
    · unfold Res at hi ⊢
      dsimp only at hi
      by_cases e : i = t
      · subst e; rw [h1t]; trivial
      · rw [hne i e] at hi; exact hi
    · unfold Res at hj ⊢
      dsimp only at hj
      by_cases e : j = t
      · subst e; rw [h1t]; trivial
      · rw [hne j e] at hj; exact hj
  have htr : ∀ n, Tr n σ { σ1 with H := σ1.H.set t nb } := fun n => (htr1.all n).trans (htr2 n)
  have hHH : σ.H.set t (.cell v') ++ [.row 0 sz] = σ1.H.set t nb := by
    rw [hH1, List.set_append_left _ _ ht]
  exact ⟨{ σ1 with H := σ1.H.set t nb }, hw1, hHH.symm, I2, fun i => RepV.mono (htr σ.H.length).le _ _ (hf i), htr n0⟩
end Go.Abs
end

section
namespace Go.Abs
open Go

theorem u32_ofInt (w : UInt32) : BitVec.ofInt 32 (w.toNat : Int) = w.toBitVec := by
  apply BitVec.eq_of_toNat_eq
  rw [BitVec.toNat_ofInt]
  have := w.toNat_lt
  simp only [UInt32.toNat_toBitVec]
  omega

theorem u32_of_bv (b : BitVec 32) : IntKind.u32.wrap (b.toNat : Int) = ((UInt32.ofBitVec b).toNat : Int) := by
  rw [wrap_u32]
  have := b.isLt
  simp only [UInt32.toNat_ofBitVec]
  omega

theorem u32_and (a b : UInt32) : ibits .and .u32 (a.toNat : Int) (b.toNat : Int) = ((a &&& b).toNat : Int) := by
  simp only [ibits]
  rw [show IntKind.u32.bits = 32 from rfl, u32_ofInt, u32_ofInt, u32_of_bv]
  rfl
theorem u32_or (a b : UInt32) : ibits .or .u32 (a.toNat : Int) (b.toNat : Int) = ((a ||| b).toNat : Int) := by
  simp only [ibits]
  rw [show IntKind.u32.bits = 32 from rfl, u32_ofInt, u32_ofInt, u32_of_bv]
  rfl
theorem u32_xor (a b : UInt32) : ibits .xor .u32 (a.toNat : Int) (b.toNat : Int) = ((a ^^^ b).toNat : Int) := by
  simp only [ibits]
  rw [show IntKind.u32.bits = 32 from rfl, u32_ofInt, u32_ofInt, u32_of_bv]
  rfl
theorem u32_not (a : UInt32) : ibits .xor .u32 4294967295 (a.toNat : Int) = ((~~~a).toNat : Int) := by
  have := u32_xor 4294967295 a
  have e : ((4294967295 : UInt32).toNat : Int) = 4294967295 := rfl
  rw [e] at this
  rw [this]
  congr 2
theorem u32_add (a b : UInt32) : IntKind.u32.wrap ((a.toNat : Int) + (b.toNat : Int)) = ((a + b).toNat : Int) := by
  rw [wrap_u32, UInt32.toNat_add]
  omega
theorem u32_sub (a b : UInt32) : IntKind.u32.wrap ((a.toNat : Int) - (b.toNat : Int)) = ((a - b).toNat : Int) := by
  rw [wrap_u32, UInt32.toNat_sub]
  have := b.toNat_lt
  omega
theorem u32_shl (a : UInt32) (n : Nat) (h : n ≤ 31) : shl .u32 (a.toNat : Int) (n : Int) = ((a <<< (UInt32.ofNat n)).toNat : Int) := by
  unfold shl
  have h1 : min (n : Int).toNat IntKind.u32.bits = n := by simp [IntKind.bits]; omega
  have h2 : (UInt32.ofNat n).toNat % 32 = n := by rw [UInt32.toNat_ofNat']; omega
  rw [h1, wrap_u32, UInt32.toNat_shiftLeft, h2, Nat.shiftLeft_eq]
  have h3 : ((a.toNat : Int) * 2 ^ n) = ((a.toNat * 2 ^ n : Nat) : Int) := by rw [Int.natCast_mul, Int.natCast_pow]; rfl
  rw [h3]
  generalize a.toNat * 2 ^ n = x
  omega
theorem u32_shr (a : UInt32) (n : Nat) (h : n ≤ 31) : shr .u32 (a.toNat : Int) (n : Int) = ((a >>> (UInt32.ofNat n)).toNat : Int) := by
  have h2 : (UInt32.ofNat n).toNat % 32 = n := by rw [UInt32.toNat_ofNat']; omega
  rw [shr_u32 a n (by omega), UInt32.toNat_shiftRight, h2, Nat.shiftRight_eq_div_pow]
theorem u32_shr_out (a : UInt32) : shr .u32 (a.toNat : Int) 32 = 0 := by
  unfold shr
  have := a.toNat_lt
  have h1 : min (32 : Int).toNat IntKind.u32.bits = 32 := rfl
  rw [h1, Int.fdiv_eq_ediv_of_nonneg _ (by decide)]
  omega

theorem and31 : ∀ n : Fin 65, ibits .and .i64 (n.val : Int) 31 = ((n.val % 32 : Nat) : Int) := by decide

/-- Turned to the left, to the right. -/
def rotl (w : UInt32) (n : Nat) : UInt32 := (w <<< UInt32.ofNat (n % 32)) ||| (if n % 32 = 0 then 0 else w >>> UInt32.ofNat (32 - n % 32))
def rotr (w : UInt32) (n : Nat) : UInt32 := rotl w (32 - n % 32)
end Go.Abs
end

section
namespace Go.Abs
open Go
/-- The program. -/
noncomputable abbrev Pg : Program := Go.Proofs.Tryz.prog
theorem hP : Pg.follows .mixedOrders = true := by kernel_rfl
abbrev n_law26_BundleSorts : Nat := 3
abbrev n_ref18_Few : Nat := 4
abbrev n_law26_awake : Nat := 5
abbrev n_bundle_Sorted : Nat := 6
abbrev n_ref26_Sorted : Nat := 7
abbrev n_ref26_Same : Nat := 8
abbrev n_bundle_Ordered : Nat := 9
abbrev n_ref15_Long : Nat := 10
abbrev n_bundle_Encode : Nat := 11
abbrev n_patch_Id : Nat := 12
abbrev n_id_Sort : Nat := 13
abbrev n_bundle_Sorted_1 : Nat := 14
abbrev n_id_Both : Nat := 15
abbrev n_graph_New : Nat := 16
abbrev n_graph_Graph_Order : Nat := 17
abbrev n_patch_Clone : Nat := 18
abbrev n_ref18_Named : Nat := 19
abbrev n_ref04_Has : Nat := 20
abbrev n_ref17_Ids : Nat := 21
abbrev n_ref18_Nodes : Nat := 22
abbrev n_ref04_Only : Nat := 23
abbrev n_ref17_Order : Nat := 24
abbrev n_ref18_Find : Nat := 25
abbrev n_ref15_Same : Nat := 26
abbrev n_slices_EqualFunc_Patch : Nat := 27
abbrev n_patch_Same : Nat := 28
abbrev n_ref13_Long : Nat := 29
abbrev n_pack_Writer_Byte : Nat := 30
abbrev n_pack_Writer_Num : Nat := 31
abbrev n_patch_Bytes : Nat := 32
abbrev n_pack_Writer_Text : Nat := 33
abbrev n_pack_Writer_String : Nat := 34
abbrev n_patch_sum : Nat := 35
abbrev n_slices_Clone_Id : Nat := 36
abbrev n_slices_SortFunc_Id : Nat := 37
abbrev n_id_compare : Nat := 38
abbrev n_slices_Compact_Id : Nat := 39
abbrev n_id_merge : Nat := 40
abbrev n_id_Both_1 : Nat := 41
abbrev n_graph_Missing : Nat := 42
abbrev n_graph_Graph_line : Nat := 43
abbrev n_op_Clone : Nat := 44
abbrev n_ref15_Right : Nat := 45
abbrev n_ref15_Written : Nat := 46
abbrev n_ref15_Id : Nat := 47
abbrev n_ref04_Put : Nat := 48
abbrev n_ref04_Less : Nat := 49
abbrev n_ref04_Same : Nat := 50
abbrev n_ref13_All : Nat := 51
abbrev n_ref08_Same : Nat := 52
abbrev n_id_Same : Nat := 53
abbrev n_slices_EqualFunc_Op : Nat := 54
abbrev n_op_Same : Nat := 55
abbrev n_patch_Body : Nat := 56
abbrev n_patch_written : Nat := 57
abbrev n_signer_Put : Nat := 58
abbrev n_tag_Of : Nat := 59
abbrev n_slices_pdqsortCmpFunc_Id : Nat := 60
abbrev n_bits_Len : Nat := 61
abbrev n_bytes_Compare : Nat := 62
abbrev n_id_Less : Nat := 63
abbrev n_id_Minus : Nat := 64
abbrev n_graph_Graph_line_1 : Nat := 65
abbrev n_slices_ContainsFunc_Id : Nat := 66
abbrev n_graph_Graph_line_1_1 : Nat := 67
abbrev n_slices_IndexFunc_Id : Nat := 68
abbrev n_slices_Clone_string : Nat := 69
abbrev n_ref04_Rises : Nat := 70
abbrev n_ref13_Right : Nat := 71
abbrev n_ref03_Of : Nat := 72
abbrev n_ref15_Bytes : Nat := 73
abbrev n_ref13_Same : Nat := 74
abbrev n_slices_Equal_Id : Nat := 75
abbrev n_hunk_Same : Nat := 76
abbrev n_op_Hunk : Nat := 77
abbrev n_patch_Right : Nat := 78
abbrev n_patch_body : Nat := 79
abbrev n_pack_Writer_Ids : Nat := 80
abbrev n_tag_Text : Nat := 81
abbrev n_sha_Sum : Nat := 82
abbrev n_slices_insertionSortCmpFunc_Id : Nat := 83
abbrev n_slices_heapSortCmpFunc_Id : Nat := 84
abbrev n_slices_breakPatternsCmpFunc_Id : Nat := 85
abbrev n_slices_choosePivotCmpFunc_Id : Nat := 86
abbrev n_slices_reverseRangeCmpFunc_Id : Nat := 87
abbrev n_slices_partialInsertionSortCmpFunc_Id : Nat := 88
abbrev n_slices_partitionEqualCmpFunc_Id : Nat := 89
abbrev n_slices_partitionCmpFunc_Id : Nat := 90
abbrev n_bits_Len32 : Nat := 91
abbrev n_bits_Len64 : Nat := 92
abbrev n_bytealg_Compare : Nat := 93
abbrev n_id_Minus_1 : Nat := 94
abbrev n_ref10_Right : Nat := 95
abbrev n_ref13_only : Nat := 96
abbrev n_ref11_Lines : Nat := 97
abbrev n_ref11_Right : Nat := 98
abbrev n_ref13_prefix : Nat := 99
abbrev n_ref02_Sum : Nat := 100
abbrev n_ref03_Text : Nat := 101
abbrev n_ref15_Body : Nat := 102
abbrev n_ref08_Bytes : Nat := 103
abbrev n_ref05_Same : Nat := 104
abbrev n_slices_Equal_string : Nat := 105
abbrev n_id_Rises : Nat := 106
abbrev n_op_Right : Nat := 107
abbrev n_pack_Writer_Id : Nat := 108
abbrev n_op_Put : Nat := 109
abbrev n_word_Number : Nat := 110
abbrev n_sha_New : Nat := 111
abbrev n_sha_Hash_Write : Nat := 112
abbrev n_sha_Hash_Sum : Nat := 113
abbrev n_slices_siftDownCmpFunc_Id : Nat := 114
abbrev n_slices_nextPowerOfTwo : Nat := 115
abbrev n_slices_xorshift_Next : Nat := 116
abbrev n_slices_medianAdjacentCmpFunc_Id : Nat := 117
abbrev n_slices_medianCmpFunc_Id : Nat := 118
abbrev n_ref10_Split : Nat := 119
abbrev n_ref10_Part : Nat := 120
abbrev n_ref11_Line : Nat := 121
abbrev n_ref02_Known : Nat := 122
abbrev n_ref02_Padded : Nat := 123
abbrev n_ref02_one : Nat := 124
abbrev n_ref01_Bytes : Nat := 125
abbrev n_ref01_Number : Nat := 126
abbrev n_ref05_Ids : Nat := 127
abbrev n_ref03_Bytes : Nat := 128
abbrev n_ref05_Text : Nat := 129
abbrev n_ref05_Num : Nat := 130
abbrev n_ref13_Bytes : Nat := 131
abbrev n_op_formed : Nat := 132
abbrev n_pack_Writer_Texts : Nat := 133
abbrev n_sha_begin : Nat := 134
abbrev n_sha_state_add : Nat := 135
abbrev n_sha_pad : Nat := 136
abbrev n_word_Bytes : Nat := 137
abbrev n_slices_order2CmpFunc_Id : Nat := 138
abbrev n_ref10_letter : Nat := 139
abbrev n_ref01_Value : Nat := 140
abbrev n_ref02_turn : Nat := 141
abbrev n_ref01_power : Nat := 142
abbrev n_ref03_All : Nat := 143
abbrev n_ref05_Texts : Nat := 144
abbrev n_path_Right : Nat := 145
abbrev n_hunk_Lines : Nat := 146
abbrev n_hunk_Right : Nat := 147
abbrev n_path_Prefix : Nat := 148
abbrev n_op_bare : Nat := 149
abbrev n_word_Words : Nat := 150
abbrev n_sha_three : Nat := 151
abbrev n_sha_constants : Nat := 152
abbrev n_word_Right : Nat := 153
abbrev n_strings_Repeat : Nat := 154
abbrev n_strings_SplitSeq : Nat := 155
abbrev n_path_part : Nat := 156
abbrev n_slices_ContainsFunc_string : Nat := 157
abbrev n_hunk_Lines_1 : Nat := 158
abbrev n_strings_Contains : Nat := 159
abbrev n_word_Left : Nat := 160
abbrev n_bits_Mul : Nat := 161
abbrev n_strings_HasPrefix : Nat := 162
abbrev n_strings_Builder_Len : Nat := 165
abbrev n_strings_splitSeq : Nat := 167
abbrev n_slices_IndexFunc_string : Nat := 168
abbrev n_strings_Index : Nat := 169
abbrev n_bits_Mul32 : Nat := 170
abbrev n_bits_Mul64 : Nat := 171
abbrev n_stringslite_HasPrefix : Nat := 172
abbrev n_strings_splitSeq_1 : Nat := 175
abbrev n_utf8_DecodeRuneInString : Nat := 176
abbrev n_stringslite_Index : Nat := 177
abbrev n_utf8_decodeRuneInStringSlow : Nat := 180
abbrev n_stringslite_IndexByte : Nat := 181
abbrev n_bytealg_Cutover : Nat := 183
abbrev n_bytealg_IndexRabinKarp_string : Nat := 184
abbrev n_bytealg_IndexByteString : Nat := 185
abbrev n_bytealg_hashStr_string : Nat := 186
end Go.Abs
end
