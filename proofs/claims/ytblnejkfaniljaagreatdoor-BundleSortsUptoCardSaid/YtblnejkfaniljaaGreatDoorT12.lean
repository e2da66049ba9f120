/-
  Abstract code against the model's: such regions, done in any order. Abstract code against the model's: code.
  Conditions: those that stand ahead of each theorem; no more.
-/
import Derived.Scope
import Derived.Test.YtblnejkfaniljaaGreatDoorT11

section
namespace Go.Abs
open Go

def loB (ops : Array Oper) (ms : List MOp) (k : Nat) : Bool := match ms[k]? with
  | some x => x.eff || ((decide (x.lo = 0) || (List.range k).any fun m => effAt ms m && decide (rank ms m + 1 = x.lo) && Region.waitsFor .any ops k m) &&
      (decide (ms.countP (·.eff) ≤ x.hi) || (List.range ms.length).any fun m => effAt ms m && decide (rank ms m = x.hi) && Region.waitsFor .any ops m k))
  | none => false

def mixB (ops : Array Oper) (ms : List MOp) : Bool :=
  decide (ms.length = ops.size) && (List.range ops.size).all (fun k => (List.range k).all fun m => pairB ops (ms.map (·.op)) m k) && backB ops ops.size &&
  (List.range ops.size).all (fun k => (List.range k).all fun m => !(effAt ms k && effAt ms m) || Region.waitsFor .any ops k m) && (List.range ops.size).all fun k => loB ops ms k

section
variable {P : Program} {ops : Array Oper} {ms : List MOp} {nt : Nat}

def ecnt (ms : List MOp) (listed : Array Bool) : Nat := (List.range ms.length).countP fun m => effAt ms m && listed.getD m false

theorem countP_take {α : Type} (p : α → Bool) : ∀ (l : List α) (k : Nat), (l.take k).countP p = (List.range l.length).countP fun m => ((l[m]?).map p).getD false && decide (m < k)
  | l, 0 => by
    rw [List.take_zero, List.countP_nil]
    exact (List.countP_eq_zero.2 fun m _ => by simp).symm
  | [], k + 1 => by simp
  | x :: l, k + 1 => by
    have ih := countP_take p l k
    rw [List.take_succ_cons, List.countP_cons, ih, List.length_cons, List.range_succ_eq_map, List.countP_cons, List.countP_map]
    have h1 : ((fun m => (((x :: l)[m]?).map p).getD false && decide (m < k + 1)) ∘ Nat.succ) = fun m => ((l[m]?).map p).getD false && decide (m < k) := by
      funext m
      simp
    rw [h1]
    simp

theorem rank_take (k : Nat) : rank ms k = (ms.take k).countP (·.eff) := (countP_take (fun x : MOp => x.eff) ms k).symm

theorem rank_all {k : Nat} (h : ms.length ≤ k) : rank ms k = ms.countP (·.eff) := by rw [rank_take, List.take_of_length_le h]

theorem countP_flip {p q : Nat → Bool} {i : Nat} (hp : p i = false) (hq : q i = true) (h : ∀ j, j ≠ i → q j = p j) : ∀ n, (List.range n).countP q = (List.range n).countP p + if i < n then 1 else 0
  | 0 => by simp
  | n + 1 => by
    rw [List.range_succ, List.countP_append, List.countP_append, countP_flip hp hq h n]
    by_cases e : n = i
    · subst e
      simp [hp, hq]
    · have h1 : (i < n) ↔ (i < n + 1) := by omega
      simp only [List.countP_cons, List.countP_nil, h n e]
      by_cases h2 : i < n
      · rw [if_pos h2, if_pos (h1.1 h2)]; omega
      · rw [if_neg h2, if_neg (fun h => h2 (h1.2 h))]; omega

theorem eve_same {cop : COp} {r r' : Opd → V} {H : HP} {K : V → HP → Prop} (h : ∀ x ∈ cop.opds, r x = r' x) : eve cop r H K = eve cop r' H K := by
  cases cop <;> simp only [COp.opds, List.mem_cons, List.not_mem_nil, or_false, forall_eq_or_imp, forall_eq, List.mem_append] at h <;>
    first
      | rfl
      | (simp only [eve]; rw [h]; done)
      | (simp only [eve]; rw [h.1, h.2]; done)
      | (simp only [eve]; rw [h.1, h.2.1, h.2.2]; done)

theorem OPW_same {o : COper} {ρ ρ' : Nat → V} {H : HP} {K : V → HP → Prop} (h : ∀ t ∈ o.reads, ρ t = ρ' t) (hq : OPW P o ρ H K) : OPW P o ρ' H K := by
  have hx : ∀ x ∈ o.op.opds, opv ρ x = opv ρ' x := fun x hx => opv_congr fun t ht => h t (List.mem_append_right _ (List.mem_filterMap.2 ⟨x, hx, ht⟩))
  have hv : ∀ x ∈ o.op.opds, val ρ x = val ρ' x := fun x hx' => by unfold val; rw [hx x hx']
  have hg : ∀ t b, o.grd = some (t, b) → ρ t = ρ' t := fun t b e => h t (List.mem_append_left _ (by rw [e]; simp))
  obtain ⟨dst, cop, grd⟩ := o
  unfold OPW at hq ⊢
  dsimp only at hq hx hg hv ⊢
  rw [← target_congr hx, ← pure1_congr hx, ← there_congr hx, ← eve_same hv]
  cases grd with
  | none => exact hq
  | some tb =>
    obtain ⟨t, b⟩ := tb
    dsimp only at hq ⊢
    rw [← hg t b rfl]
    exact hq

theorem any_mixed {l : List Oper} {vs : List V} {tm : TM} {K : TM → HP → Prop} {Q : Exit → Act → World → Prop} {σ0 : St} {H : HP} {Hs : List HP} (ho : ops = l.toArray) (hk : chkOpers P ops nt l (ms.map (·.op)) = true) (hB : mixB ops ms = true) (hvl : vs.length = ms.length)
    (hq : ∀ k m v, ms[k]? = some m → vs[k]? = some v → m.eff = false → ∀ j G, m.lo ≤ j → j ≤ m.hi → (H :: Hs)[j]? = some G → OPQ P m.op (lk (puts tm ((ms.map (·.op)).take k) (vs.take k))) G v)
    (he : ∀ k m v, ms[k]? = some m → vs[k]? = some v → m.eff = true → ∃ G G', (H :: Hs)[(ms.take k).countP (·.eff)]? = some G ∧ (H :: Hs)[(ms.take k).countP (·.eff) + 1]? = some G' ∧ OPW P m.op (lk (puts tm ((ms.map (·.op)).take k) (vs.take k))) G fun v' H' => v' = v ∧ H' = G')
    (hend : ∃ G, (H :: Hs)[ms.countP (·.eff)]? = some G ∧ K (puts tm (ms.map (·.op)) vs) G)
    (hQ : ∀ tm' a' σ', Inv σ' → RepF σ' (lk tm') a' → okAct nt a' → Tr σ0.H.length σ0 σ' → K tm' σ'.H → Q .normal a' σ'.w) :
    ∀ (c : Nat) (listed : Array Bool) (σ : St) (a : Act), listed.size = ops.size → (∀ j oj, ops[j]? = some oj → listed.getD j false = true → ∀ e ∈ oj.after, Region.binds .any e = true → listed.getD e.on false = true) → cnt ops.size listed = c → Inv σ →
      (H :: Hs)[ecnt ms listed]? = some σ.H → RepF σ (cur (fun m => listed.getD m false) (lk tm) (ms.map (·.op)) vs 0) a → okAct nt a → Tr σ0.H.length σ0 σ → wpAny P .any ops Q c listed a σ.w := by
  simp only [mixB, Bool.and_eq_true, decide_eq_true_eq] at hB
  obtain ⟨⟨⟨⟨hml, hpair⟩, hback⟩, heff⟩, hlo⟩ := hB
  have hpair : ∀ m k, m < k → k < ops.size → pairB ops (ms.map (·.op)) m k = true := fun m k h1 h2 => List.all_eq_true.1 (List.all_eq_true.1 hpair k (List.mem_range.2 h2)) m (List.mem_range.1 (List.mem_range.2 h1) |> List.mem_range.2)
  have heff : ∀ m k, m < k → k < ops.size → effAt ms m = true → effAt ms k = true → Region.waitsFor .any ops k m = true := fun m k h1 h2 h3 h4 => by
    have := List.all_eq_true.1 (List.all_eq_true.1 heff k (List.mem_range.2 h2)) m (List.mem_range.2 h1)
    simpa [h3, h4] using this
  have hlo : ∀ k, k < ops.size → loB ops ms k = true := fun k h => List.all_eq_true.1 hlo k (List.mem_range.2 h)
  have hlen : l.length = ops.size := by rw [ho]; simp
  intro c
  induction c with
  | zero =>
    intro listed σ a hs hcl hc I hH hf ha htr
    have hall := cnt_zero hc
    have hall' : ∀ i, i < ops.size → listed.getD i false = true := fun i hi => by
      have := hall i hi
      have his : i < listed.size := by omega
      simp [his] at this ⊢
      exact this
    refine ⟨?_, ?_⟩
    · unfold Region.ready
      rw [List.filter_eq_nil_iff]
      intro i hi
      rw [hall i (List.mem_range.1 hi)]
      simp
    · have e1 : ecnt ms listed = ms.countP (·.eff) := by
        rw [← rank_all (ms := ms) (k := ms.length) (Nat.le_refl _)]
        unfold ecnt rank
        refine List.countP_congr fun m hm => ?_
        have hm' := List.mem_range.1 hm
        rw [hall' m (by omega)]
        simp [effAt, hm']
      rw [e1] at hH
      obtain ⟨G, g1, g2⟩ := hend
      rw [g1] at hH
      have : G = σ.H := Option.some.inj hH
      subst this
      refine hQ _ a σ I ?_ ha htr g2
      rw [lk_puts (p := fun m => listed.getD m false) _ _ _ 0 fun m hm => by
        rw [Nat.zero_add]; exact hall' m (by simp at hm; omega)]
      exact hf
  | succ c ih =>
    intro listed σ a hs hcl hc I hH hf ha htr
    have hex : ∃ i, i < ops.size ∧ listed.getD i true = false := by
      apply Classical.byContradiction
      intro hno
      have : cnt ops.size listed = 0 := by
        unfold cnt
        rw [List.length_eq_zero_iff, List.filter_eq_nil_iff]
        intro i hi
        cases hh : listed.getD i true with
        | true => simp
        | false => exact (hno ⟨i, List.mem_range.1 hi, hh⟩).elim
      omega
    obtain ⟨i0, hi0, hun0⟩ := hex
    refine ⟨fun h0 => ?_, fun i hi => ?_⟩
    · obtain ⟨j, hj⟩ := ready_some hback (Nat.le_refl _) hs i0 hi0 hun0
      rw [h0] at hj
      cases hj
    · obtain ⟨hun, oi, hoi, hall⟩ := mem_ready.1 hi
      have his : i < ops.size := (Array.getElem?_eq_some_iff.1 hoi).1
      have hils : i < listed.size := by omega
      have hmi : ∃ mi, ms[i]? = some mi := ⟨ms[i]'(by omega), List.getElem?_eq_getElem (by omega)⟩
      obtain ⟨mi, hmi⟩ := hmi
      have hci : (ms.map (·.op))[i]? = some mi.op := by simp [hmi]
      have hvi : ∃ vi, vs[i]? = some vi := ⟨vs[i]'(by omega), List.getElem?_eq_getElem (by omega)⟩
      obtain ⟨vi, hvi⟩ := hvi
      have hoil : l[i]? = some oi := by rw [ho] at hoi; simpa using hoi
      have hchk := chkOpers_get hk hoil hci
      have hun' : listed.getD i false = false := getD_both hun
      have hwaits : ∀ m, Region.waitsFor .any ops i m = true → listed.getD m false = true := fun m hw => by
        obtain ⟨o', ho', e, he, hb, hon⟩ := Region.waitsFor_spec hw
        have : o' = oi := Option.some.inj (ho'.symm.trans hoi)
        subst this
        have := hall e he hb
        rwa [hon] at this
      have hnot : ∀ m, Region.waitsFor .any ops m i = true → listed.getD m false = false := fun m hw => by
        obtain ⟨o', ho', e, he, hb, hon⟩ := Region.waitsFor_spec hw
        cases hl : listed.getD m false with
        | false => rfl
        | true =>
          have := hcl m o' ho' hl e he hb
          rw [hon, hun'] at this
          cases this
      have hread : ∀ t ∈ mi.op.reads, lk (puts tm ((ms.map (·.op)).take i) (vs.take i)) t = cur (fun m => listed.getD m false) (lk tm) (ms.map (·.op)) vs 0 t := by
        intro t ht
        have e1 : lk (puts tm ((ms.map (·.op)).take i) (vs.take i)) = cur (fun _ => true) (lk tm) ((ms.map (·.op)).take i) (vs.take i) 0 := lk_puts (p := fun _ => true) _ _ _ 0 fun _ _ => rfl
        rw [e1, cur_take]
        refine cur_congr rfl fun m cm hcm hdm => ?_
        simp only [Nat.zero_add, Bool.true_and]
        have hms : m < ops.size := by have := (List.getElem?_eq_some_iff.1 hcm).1; simp at this; omega
        rcases Nat.lt_trichotomy m i with hmi' | rfl | hmi'
        · rcases (pairB_spec (hpair m i hmi' his) hcm hci).2 with h | h
          · rw [hwaits m h]; simp [hmi']
          · exact (h.1 t hdm ht).elim
        · simp [hun']
        · have h2 : ¬ m < i := by omega
          rcases (pairB_spec (hpair i m hmi' hms) hci hcm).2 with h | h
          · rw [hnot m h]; simp [h2]
          · exact (h.2 t hdm ht).elim
      have hstep : ∀ {K' : V → HP → Prop}, OPW P mi.op (cur (fun m => listed.getD m false) (lk tm) (ms.map (·.op)) vs 0) σ.H K' → (∀ v' H', K' v' H' → v' = vi ∧ (H :: Hs)[ecnt ms (listed.setIfInBounds i true)]? = some H') → wpOp P ops Q i (wpAny P .any ops Q c (listed.setIfInBounds i true)) a σ.w := by
        intro K' hopw hK'
        have := op_sound (ops := ops) hchk I hf hopw (next := wpAny P .any ops Q c (listed.setIfInBounds i true)) (Q := Q) fun v cv σ' I' hr htr' hK => by
          obtain ⟨rfl, hH'⟩ := hK' _ _ hK
          refine ih (listed.setIfInBounds i true) σ' (a.put oi.dst cv) (by simp [hs]) (fun j oj hj hl e he hb => ?_) ?_ I' hH' ?_ (ha.put _ _) (htr.trans' htr')
          · by_cases hij : i = j
            · subst hij
              have : oj = oi := Option.some.inj (hj.symm.trans hoi)
              subst this
              exact getD_set_true (hall e he hb)
            · rw [getD_set_ne false hij] at hl
              exact getD_set_true (hcl j oj hj hl e he hb)
          · have := cnt_set (n := ops.size) his hils hun
            omega
          · have hset := cur_set (p := fun m => listed.getD m false) (p' := fun m => (listed.setIfInBounds i true).getD m false) (ρ := lk tm) hci hvi (by simp [hils]) (fun j hj => getD_set_ne false fun e => hj e.symm) fun t ht m' c' hc' hd' => by
              have hms : m' < ops.size := by have := (List.getElem?_eq_some_iff.1 hc').1; simp at this; omega
              rcases Nat.lt_trichotomy m' i with h | h | h
              · exact ((pairB_spec (hpair m' i h his) hc' hci).1 t hd' ht).elim
              · exact h
              · exact ((pairB_spec (hpair i m' h hms) hci hc').1 t ht hd').elim
            rw [hset]
            have hd := hchk
            simp only [chkOper, Bool.and_eq_true] at hd
            rw [← eqDst_eq hd.1.1.1]
            exact hf.put htr'.le hr (by rw [ha.1]; exact hd.1.1.2)
        unfold wpOp
        rw [hoi]
        dsimp only
        split
        · rename_i hw; rw [if_pos hw] at this; exact .inl this
        · rename_i hw; rw [if_neg hw] at this; exact this
      cases hme : mi.eff with
      | true =>
        have heffi : effAt ms i = true := by simp [effAt, hmi, hme]
        have hrank : ecnt ms listed = (ms.take i).countP (·.eff) := by
          rw [← rank_take]
          unfold ecnt rank
          refine List.countP_congr fun m hm => ?_
          have hm' := List.mem_range.1 hm
          cases hem : effAt ms m with
          | false => simp
          | true =>
            simp only [Bool.true_and]
            rcases Nat.lt_trichotomy m i with h | rfl | h
            · rw [hwaits m (heff m i h his hem heffi)]; simp [h]
            · rw [hun']; simp
            · rw [hnot m (heff i m h (by omega) heffi hem)]
              have : ¬ m < i := by omega
              simp [this]
        obtain ⟨G, G', g1, g2, g3⟩ := he i mi vi hmi hvi hme
        rw [hrank, g1] at hH
        have : G = σ.H := Option.some.inj hH
        subst this
        have hcnt : ecnt ms (listed.setIfInBounds i true) = ecnt ms listed + 1 := by
          unfold ecnt
          have := countP_flip (p := fun m => effAt ms m && listed.getD m false) (q := fun m => effAt ms m && (listed.setIfInBounds i true).getD m false) (i := i) (by simp only [hun', Bool.and_false]) (by simp [heffi, hils]) (fun j hj => by simp only [getD_set_ne false fun e => hj e.symm]) ms.length
          rw [if_pos (by omega)] at this
          exact this
        have hcongr : OPW P mi.op (cur (fun m => listed.getD m false) (lk tm) (ms.map (·.op)) vs 0) σ.H (fun v' H' => v' = vi ∧ H' = G') := by
          exact OPW_same hread g3
        refine hstep hcongr fun v' H' hv => ⟨hv.1, ?_⟩
        rw [hcnt, hrank, hv.2]
        exact g2
      | false =>
        have heffi : effAt ms i = false := by simp [effAt, hmi, hme]
        have hl := hlo i his
        unfold loB at hl
        rw [hmi] at hl
        dsimp only at hl
        rw [hme] at hl
        simp only [Bool.false_or, Bool.and_eq_true, Bool.or_eq_true, decide_eq_true_eq] at hl
        obtain ⟨hl1, hl2⟩ := hl
        have hge : mi.lo ≤ ecnt ms listed := by
          rcases hl1 with h | h
          · omega
          · obtain ⟨m, hm, hm2⟩ := List.any_eq_true.1 h
            have hmi' := List.mem_range.1 hm
            simp only [Bool.and_eq_true, decide_eq_true_eq] at hm2
            obtain ⟨⟨h1, h2⟩, h3⟩ := hm2
            have hlm := hwaits m h3
            rw [← h2]
            have : rank ms (m + 1) ≤ ecnt ms listed := by
              unfold rank ecnt
              refine List.countP_mono_left fun j hj hjj => ?_
              simp only [Bool.and_eq_true, decide_eq_true_eq] at hjj ⊢
              refine ⟨hjj.1, ?_⟩
              rcases Nat.lt_or_ge j m with hjm | hjm
              · have hw := heff j m hjm (by omega) hjj.1 h1
                obtain ⟨o', ho', e, he, hb, hon⟩ := Region.waitsFor_spec hw
                have := hcl m o' ho' hlm e he hb
                rwa [hon] at this
              · have : j = m := by omega
                subst this; exact hlm
            have hr : rank ms (m + 1) = rank ms m + 1 := by
              unfold rank
              have h1' : effAt ms m = true := h1
              have := countP_flip (p := fun j => effAt ms j && decide (j < m)) (q := fun j => effAt ms j && decide (j < m + 1)) (i := m) (by simp) (by simp [h1']) (fun j hj => by
                have : (j < m + 1) ↔ (j < m) := by omega
                simp only [this]) ms.length
              rw [if_pos (by omega)] at this
              exact this
            omega
        have hle : ecnt ms listed ≤ mi.hi := by
          rcases hl2 with h | h
          · refine Nat.le_trans ?_ h
            rw [← rank_all (ms := ms) (k := ms.length) (Nat.le_refl _)]
            unfold ecnt rank
            refine List.countP_mono_left fun j hj hjj => ?_
            simp only [Bool.and_eq_true, decide_eq_true_eq] at hjj ⊢
            exact ⟨hjj.1, List.mem_range.1 hj⟩
          · obtain ⟨m, hm, hm2⟩ := List.any_eq_true.1 h
            have hmm := List.mem_range.1 hm
            simp only [Bool.and_eq_true, decide_eq_true_eq] at hm2
            obtain ⟨⟨h1, h2⟩, h3⟩ := hm2
            have hlm := hnot m h3
            rw [← h2]
            unfold ecnt rank
            refine List.countP_mono_left fun j hj hjj => ?_
            simp only [Bool.and_eq_true, decide_eq_true_eq] at hjj ⊢
            refine ⟨hjj.1, ?_⟩
            rcases Nat.lt_trichotomy j m with hjm | rfl | hjm
            · exact hjm
            · rw [hlm] at hjj; cases hjj.2
            · have hw := heff m j hjm (by have := List.mem_range.1 hj; omega) h1 hjj.1
              obtain ⟨o', ho', e, he, hb, hon⟩ := Region.waitsFor_spec hw
              have := hcl j o' ho' hjj.2 e he hb
              rw [hon, hlm] at this
              cases this
        have hcnt : ecnt ms (listed.setIfInBounds i true) = ecnt ms listed := by
          unfold ecnt
          refine List.countP_congr fun m hm => ?_
          by_cases e : i = m
          · subst e; simp [heffi]
          · rw [getD_set_ne false e]
        have := hq i mi vi hmi hvi hme _ _ hge hle hH
        refine hstep (OPQ_OPW (OPQ_congr hread this)) fun v' H' hv => ⟨hv.1, ?_⟩
        rw [hcnt, hv.2]
        exact hH
end
end Go.Abs
end

section
namespace Go.Abs
open Go

/-- What may be forgotten. -/
def Weak (n0 : Nat) (tm : TM) (H : HP) (tm' : TM) (H' : HP) : Prop :=
  ∀ (σ : St) (a : Act), σ.H = H → Inv σ → RepF σ (lk tm) a → ∃ σ', σ'.w = σ.w ∧ σ'.H = H' ∧ Inv σ' ∧ RepF σ' (lk tm') a ∧ Tr n0 σ σ'

theorem Weak.refl (n0 : Nat) (tm : TM) (H : HP) : Weak n0 tm H tm H := fun σ _ h I hf => ⟨σ, rfl, h, I, hf, Tr.refl _ _⟩

/-- What abstract code asks, for its ends to be so. -/
def AW (P : Program) (n0 : Nat) : CC → (Ex → TM → HP → Prop) → TM → HP → Prop
  | .skip, Q, tm, H => Q .normal tm H
  | .reg draw ops live, Q, tm, H => RW P (draw.getD 0) ops tm H fun tm' H' => Q .normal (keepLive tm' live) H'
  | .seq x y, Q, tm, H => AW P n0 x (fun | .normal => AW P n0 y Q | e => Q e) tm H
  | .cond c x y, Q, tm, H => ∃ b, there (lk tm) [c] = true ∧ val (lk tm) c = .bool b ∧ (b = true → AW P n0 x Q tm H) ∧ (b = false → AW P n0 y Q tm H)
  | .block id c, Q, tm, H => AW P n0 c (fun | .exit j => if j = id then Q .normal else Q (.exit j) | e => Q e) tm H
  | .loop c, Q, tm, H => ∃ J : Nat → TM → HP → Prop, (∃ n, J n tm H) ∧ ∀ n tm' H', J n tm' H' → AW P n0 c (fun | .normal => fun tm'' H'' => ∃ m, m < n ∧ J m tm'' H'' | e => Q e) tm' H'
  | .exit id, Q, tm, H => Q (.exit id) tm H
  | .scope l c r, Q, tm, H => ∃ J : Nat → TM → HP → Prop, AW P n0 c (fun | .goto l' => fun tm' H' => l' = l ∧ ∃ n, J n tm' H' | e => Q e) tm H ∧
      ∀ n tm' H', J n tm' H' → AW P n0 r (fun | .goto l' => fun tm'' H'' => l' = l ∧ ∃ m, m < n ∧ J m tm'' H'' | e => Q e) tm' H'
  | .label, Q, tm, H => Q .normal tm H
  | .goto l, Q, tm, H => Q (.goto l) tm H
  | .ret, Q, tm, H => Q .ret tm H
  | .wk c, Q, tm, H => ∃ tm' H', Weak n0 tm H tm' H' ∧ AW P n0 c Q tm' H'
  | .regm ms live, Q, tm, H => RM P ms tm H [] [] fun tm' H' => Q .normal (keepLive tm' live) H'

/-- Does abstract code stand for this code? -/
def CC.chk (P : Program) (nt : Nat) : CC → Code → Bool
  | .skip, .skip => true
  | .reg draw cs _, .region _ ops d => chkOpers P ops nt ops.toList cs && (match draw with | none => !d | some n => d && anyB ops cs n)
  | .seq x y, .seq a b => x.chk P nt a && y.chk P nt b
  | .cond c x y, .cond d a b => chkOpd d c && x.chk P nt a && y.chk P nt b
  | .block i x, .block j a => Nat.beq i j && x.chk P nt a
  | .loop x, .loop a => x.chk P nt a
  | .exit i, .exit j => Nat.beq i j
  | .scope l x r, .scope a => x.chk P nt a && (match findLabel a l with | some b => r.chk P nt b | none => false)
  | .label, .label _ => true
  | .goto i, .goto j => Nat.beq i j
  | .ret, .ret => true
  | .wk x, a => x.chk P nt a
  | .regm ms _, .region _ ops d => chkOpers P ops nt ops.toList (ms.map (·.op)) && d && mixB ops ms
  | _, _ => false

def Ex.real : Ex → Exit
  | .normal => .normal
  | .exit i => .exit i
  | .goto l => .goto l
  | .ret => .ret

section
variable {P : Program} {a : Act} {w : World} {Q : Exit → Act → World → Prop}

theorem wp_loop_idx {c : Code} (J : Nat → Act → World → Prop) (n : Nat) (h0 : J n a w) (round : ∀ n a w, J n a w → c.wp P (Exit.then (fun a' w' => ∃ m, m < n ∧ J m a' w') Q) a w) : (Code.loop c).wp P Q a w := by
  intro b k cs
  have key : ∀ n a w, J n a w → ∃ e a' w', Q e a' w' ∧ Arrives P (lone (b.at a (.code c :: .inLoop c :: k)) cs w) b k cs e a' w' := by
    intro n
    induction n using Nat.strongRecOn with
    | _ n ih =>
      intro a w hI
      obtain ⟨e, a₁, w₁, hq, harr⟩ := round n a w hI b (.inLoop c :: k) cs
      cases e with
      | normal =>
        obtain ⟨m, hlt, hI₁⟩ := hq
        obtain ⟨e₂, a₂, w₂, hq₂, harr₂⟩ := ih m hlt a₁ w₁ hI₁
        exact ⟨e₂, a₂, w₂, hq₂, .of_steps (Steps.trans harr (.one step_inLoop)) harr₂⟩
      | exit id => exact ⟨_, a₁, w₁, hq, .pass (x := .inLoop c) rfl (fun _ _ => .inl (by simp)) harr⟩
      | goto l => exact ⟨_, a₁, w₁, hq, .pass (x := .inLoop c) rfl (fun _ _ => .inl (by simp)) harr⟩
      | ret => exact ⟨_, a₁, w₁, hq, .pass (x := .inLoop c) rfl (fun _ _ => .inl (by simp)) harr⟩
      | panic ch => exact ⟨_, a₁, w₁, hq, .pass (x := .inLoop c) rfl (fun _ _ => .inl (by simp)) harr⟩
      | outgrown => exact ⟨_, a₁, w₁, hq, .pass (x := .inLoop c) rfl (fun _ _ => .inl (by simp)) harr⟩
  obtain ⟨e, a', w', hq, harr⟩ := key n a w h0
  exact ⟨e, a', w', hq, .of_steps (.one step_loop) harr⟩

/-- As Q; by a goto to label l: J; by any other goto: no way out. -/
def jumpTo (l : Nat) (J : Act → World → Prop) (Q : Exit → Act → World → Prop) : Exit → Act → World → Prop
  | .goto l', a, w => l' = l ∧ J a w
  | e, a, w => Q e a w

theorem wp_scope_idx {c rest : Code} (l : Nat) (J : Nat → Act → World → Prop) (hf : findLabel c l = some rest) (first : c.wp P (jumpTo l (fun a w => ∃ n, J n a w) Q) a w)
    (pass : ∀ n a w, J n a w → rest.wp P (jumpTo l (fun a' w' => ∃ m, m < n ∧ J m a' w') Q) a w) : (Code.scope c).wp P Q a w := by
  intro b k cs
  have hg : gotoIn l (.inScope c :: k) = some (.code rest :: .inScope c :: k) := by simp [gotoIn, hf]
  have key : ∀ n a w, J n a w → ∃ e a' w', Q e a' w' ∧ Arrives P (lone (b.at a (.code rest :: .inScope c :: k)) cs w) b k cs e a' w' := by
    intro n
    induction n using Nat.strongRecOn with
    | _ n ih =>
      intro a w hJ
      obtain ⟨e, a₁, w₁, hq, harr⟩ := pass n a w hJ b (.inScope c :: k) cs
      cases e with
      | normal => exact ⟨.normal, a₁, w₁, hq, Steps.trans harr (.one step_inScope)⟩
      | exit id => exact ⟨.exit id, a₁, w₁, hq, fun k' hk => harr k' (by simp [exitTo, hk])⟩
      | goto l' =>
        obtain ⟨rfl, m, hlt, hJ'⟩ := hq
        obtain ⟨e₂, a₂, w₂, hq₂, harr₂⟩ := ih m hlt a₁ w₁ hJ'
        exact ⟨e₂, a₂, w₂, hq₂, .of_steps (harr _ hg) harr₂⟩
      | ret => exact ⟨_, a₁, w₁, hq, harr⟩
      | panic ch => exact ⟨_, a₁, w₁, hq, harr⟩
      | outgrown => exact ⟨_, a₁, w₁, hq, harr⟩
  obtain ⟨e, a₁, w₁, hq, harr⟩ := first b (.inScope c :: k) cs
  cases e with
  | normal => exact ⟨.normal, a₁, w₁, hq, .head step_scope (Steps.trans harr (.one step_inScope))⟩
  | exit id => exact ⟨.exit id, a₁, w₁, hq, fun k' hk => .head step_scope (harr k' (by simp [exitTo, hk]))⟩
  | goto l' =>
    obtain ⟨rfl, n, hJ'⟩ := hq
    obtain ⟨e₂, a₂, w₂, hq₂, harr₂⟩ := key n _ _ hJ'
    exact ⟨e₂, a₂, w₂, hq₂, .of_steps (.head step_scope (harr _ hg)) harr₂⟩
  | ret => exact ⟨_, a₁, w₁, hq, .of_steps (.one step_scope) harr⟩
  | panic ch => exact ⟨_, a₁, w₁, hq, .of_steps (.one step_scope) harr⟩
  | outgrown => exact ⟨_, a₁, w₁, hq, .of_steps (.one step_scope) harr⟩
end

theorem lk_keepLive (tm : TM) (l : List Nat) (t : Nat) : lk (keepLive tm l) t = lk tm t ∨ lk (keepLive tm l) t = .junk := by
  induction l with
  | nil => exact .inr rfl
  | cons i l ih =>
    simp only [keepLive, lk]
    split
    · rename_i e; subst e; exact .inl rfl
    · exact ih

theorem RepF.keepLive {σ : St} {tm : TM} {a : Act} (h : RepF σ (lk tm) a) (l : List Nat) : RepF σ (lk (keepLive tm l)) a := by
  intro i
  rcases lk_keepLive tm l i with e | e <;> rw [e]
  · exact h i
  · trivial

section
variable {P : Program} {nt : Nat} {σ0 : St}

def Post (nt : Nat) (σ0 : St) (Q : Ex → TM → HP → Prop) (Q' : Exit → Act → World → Prop) : Prop :=
  ∀ e tm a σ, Inv σ → RepF σ (lk tm) a → okAct nt a → Tr σ0.H.length σ0 σ → Q e tm σ.H → Q' e.real a σ.w

theorem reg_sound (hP : P.follows .mixedOrders = true) {draw : Option Nat} {cs : List COper} {live : List Nat} {id : Nat} {ops : Array Oper} {d : Bool} (hk : CC.chk P nt (.reg draw cs live) (.region id ops d) = true)
    {σ : St} {tm : TM} {a : Act} {Q : Ex → TM → HP → Prop} {Q' : Exit → Act → World → Prop} (I : Inv σ) (hf : RepF σ (lk tm) a) (ha : okAct nt a) (ht : Tr σ0.H.length σ0 σ) (h : AW P σ0.H.length (.reg draw cs live) Q tm σ.H) (hQ : Post nt σ0 Q Q') :
    (Code.region id ops d).wp P Q' a σ.w := by
  simp only [CC.chk, Bool.and_eq_true] at hk
  obtain ⟨h1, h2⟩ := hk
  have hpost : ∀ tm' a' σ', Inv σ' → RepF σ' (lk tm') a' → okAct nt a' → Tr σ0.H.length σ0 σ' → Q .normal (keepLive tm' live) σ'.H → Q' .normal a' σ'.w :=
    fun tm' a' σ' I' hf' ha' ht' hq => hQ .normal _ a' σ' I' (hf'.keepLive live) ha' ht' hq
  simp only [AW] at h
  cases draw with
  | none =>
    simp only [Bool.not_eq_true'] at h2
    subst h2
    exact wp_region_list (list_sound 0 ops.toList cs tm σ a h1 I hf ha ht h hpost)
  | some n =>
    simp only [Bool.and_eq_true] at h2
    obtain ⟨rfl, hB⟩ := h2
    simp only [Option.getD_some] at h
    refine wp_region_any hP ?_
    obtain ⟨vs, k1, k2, k3⟩ := RW.split n cs tm h
    have hB' := hB
    simp only [anyB, Bool.and_eq_true, decide_eq_true_eq] at hB'
    have hn := hB'.1.1.1.1.1
    have hcl := hB'.1.1.1.1.2
    have hvl : vs.length = n := by rw [k1, hcl]; omega
    have htr := St.draw_tr σ σ.H.length (σ.w.drawn + 1)
    have := any_head (σ0 := σ0) (H := σ.H) (tm := tm) (l := ops.toList) (by simp) h1 hB hvl k2 k3 hpost n (Array.replicate ops.size false) { σ with w := { σ.w with drawn := σ.w.drawn + 1 } } a
      ⟨by simp, fun j oj _ hl => (by rw [getD_replicate_false] at hl; cases hl), fun t _ ht => getD_in (by simpa using ht) (getD_replicate_false _ _)⟩ ?_ (St.draw_inv I _) rfl ?_ ha (ht.trans' htr)
    · rw [show n + (ops.size - n) = ops.size by omega] at this
      exact this
    · unfold cnt
      have : ∀ i ∈ List.range n, ((Array.replicate ops.size false).getD i true == false) = true := fun i hi => by
        have : i < ops.size := by have := List.mem_range.1 hi; omega
        simp [this]
      rw [List.filter_eq_self.2 this, List.length_range]
    · have : (fun m => (Array.replicate ops.size false).getD m false) = fun _ => false := funext fun m => getD_replicate_false _ _
      rw [this]
      have hc : ∀ (cs : List COper) (vs : List V) (ρ : Nat → V) (i : Nat), cur (fun _ => false) ρ cs vs i = ρ := by
        intro cs
        induction cs with
        | nil => intro vs ρ i; simp [cur]
        | cons c cs ih => intro vs ρ i; cases vs <;> simp [cur, ih]
      rw [hc]
      exact fun i => RepV.mono htr.le _ _ (hf i)

theorem regm_sound (hP : P.follows .mixedOrders = true) {ms : List MOp} {live : List Nat} {id : Nat} {ops : Array Oper} {d : Bool} (hk : CC.chk P nt (.regm ms live) (.region id ops d) = true)
    {σ : St} {tm : TM} {a : Act} {Q : Ex → TM → HP → Prop} {Q' : Exit → Act → World → Prop} (I : Inv σ) (hf : RepF σ (lk tm) a) (ha : okAct nt a) (ht : Tr σ0.H.length σ0 σ) (h : AW P σ0.H.length (.regm ms live) Q tm σ.H) (hQ : Post nt σ0 Q Q') :
    (Code.region id ops d).wp P Q' a σ.w := by
  simp only [CC.chk, Bool.and_eq_true] at hk
  obtain ⟨⟨h1, rfl⟩, hB⟩ := hk
  have hpost : ∀ tm' a' σ', Inv σ' → RepF σ' (lk tm') a' → okAct nt a' → Tr σ0.H.length σ0 σ' → Q .normal (keepLive tm' live) σ'.H → Q' .normal a' σ'.w :=
    fun tm' a' σ' I' hf' ha' ht' hq => hQ .normal _ a' σ' I' (hf'.keepLive live) ha' ht' hq
  simp only [AW] at h
  refine wp_region_any hP ?_
  obtain ⟨vs, Hs, k1, k2, k3, k4, _, k6⟩ := RM.split ms tm σ.H [] [] h
  simp only [List.reverse_nil, List.nil_append, List.length_nil, Nat.zero_add] at k3 k4 k6
  have htr := St.draw_tr σ σ.H.length (σ.w.drawn + 1)
  refine any_mixed (σ0 := σ0) (H := σ.H) (Hs := Hs) (tm := tm) (l := ops.toList) (by simp) h1 hB k1 k3 k4 k6 hpost ops.size (Array.replicate ops.size false) { σ with w := { σ.w with drawn := σ.w.drawn + 1 } } a (by simp)
    (fun j oj _ hl => (by rw [getD_replicate_false] at hl; cases hl)) ?_ (St.draw_inv I _) ?_ ?_ ha (ht.trans' htr)
  · unfold cnt
    have : ∀ i ∈ List.range ops.size, ((Array.replicate ops.size false).getD i true == false) = true := fun i hi => by
      have := List.mem_range.1 hi
      simp [this]
    rw [List.filter_eq_self.2 this, List.length_range]
  · have : ecnt ms (Array.replicate ops.size false) = 0 := by
      unfold ecnt
      refine List.countP_eq_zero.2 fun m _ => ?_
      rw [getD_replicate_false]; simp
    rw [this]; rfl
  · have : (fun m => (Array.replicate ops.size false).getD m false) = fun _ => false := funext fun m => getD_replicate_false _ _
    rw [this]
    have hc : ∀ (cs : List COper) (vs : List V) (ρ : Nat → V) (i : Nat), cur (fun _ => false) ρ cs vs i = ρ := by
      intro cs
      induction cs with
      | nil => intro vs ρ i; simp [cur]
      | cons c cs ih => intro vs ρ i; cases vs <;> simp [cur, ih]
    rw [hc]
    exact fun i => RepV.mono htr.le _ _ (hf i)

theorem AW_sound (hP : P.follows .mixedOrders = true) : ∀ (cc : CC) (code : Code), cc.chk P nt code = true → ∀ (σ : St) (tm : TM) (a : Act) (Q : Ex → TM → HP → Prop) (Q' : Exit → Act → World → Prop),
    Inv σ → RepF σ (lk tm) a → okAct nt a → Tr σ0.H.length σ0 σ → AW P σ0.H.length cc Q tm σ.H → Post nt σ0 Q Q' → code.wp P Q' a σ.w := by
  intro cc
  induction cc with
  | skip => intro code hk σ tm a Q Q' I hf ha ht h hQ; cases code <;> simp only [CC.chk] at hk <;> first | (cases hk; done) | exact wp_skip (hQ .normal _ _ _ I hf ha ht h)
  | label => intro code hk σ tm a Q Q' I hf ha ht h hQ; cases code <;> simp only [CC.chk] at hk <;> first | (cases hk; done) | exact wp_label (hQ .normal _ _ _ I hf ha ht h)
  | ret => intro code hk σ tm a Q Q' I hf ha ht h hQ; cases code <;> simp only [CC.chk] at hk <;> first | (cases hk; done) | exact wp_ret (hQ .ret _ _ _ I hf ha ht h)
  | exit i =>
    intro code hk σ tm a Q Q' I hf ha ht h hQ
    cases code <;> simp only [CC.chk] at hk <;> first | (cases hk; done) | skip
    have := Nat.eq_of_beq_eq_true hk; subst this
    exact wp_exit (hQ (.exit i) _ _ _ I hf ha ht h)
  | goto i =>
    intro code hk σ tm a Q Q' I hf ha ht h hQ
    cases code <;> simp only [CC.chk] at hk <;> first | (cases hk; done) | skip
    have := Nat.eq_of_beq_eq_true hk; subst this
    exact wp_goto (hQ (.goto i) _ _ _ I hf ha ht h)
  | reg draw cs live =>
    intro code hk σ tm a Q Q' I hf ha ht h hQ
    cases code <;> first | (simp only [CC.chk] at hk; cases hk; done) | exact reg_sound hP hk I hf ha ht h hQ
  | regm ms live =>
    intro code hk σ tm a Q Q' I hf ha ht h hQ
    cases code <;> first | (simp only [CC.chk] at hk; cases hk; done) | exact regm_sound hP hk I hf ha ht h hQ
  | seq x y ihx ihy =>
    intro code hk σ tm a Q Q' I hf ha ht h hQ
    cases code <;> simp only [CC.chk] at hk <;> first | (cases hk; done) | skip
    rename_i c d
    simp only [Bool.and_eq_true] at hk
    refine wp_seq (ihx c hk.1 σ tm a _ _ I hf ha ht h fun e tm' a' σ' I' hf' ha' ht' hq => ?_)
    cases e
    case normal => exact ihy d hk.2 σ' tm' a' Q Q' I' hf' ha' ht' hq hQ
    all_goals exact hQ _ _ _ _ I' hf' ha' ht' hq
  | cond c x y ihx ihy =>
    intro code hk σ tm a Q Q' I hf ha ht h hQ
    cases code <;> simp only [CC.chk] at hk <;> first | (cases hk; done) | skip
    rename_i d p q
    simp only [Bool.and_eq_true] at hk
    obtain ⟨⟨k1, k2⟩, k3⟩ := hk
    obtain ⟨b, h1, h2, h3, h4⟩ := h
    simp only [there_cons] at h1
    have r1 := opd_rep hf k1 h1.1
    rw [h2, repV_bool] at r1
    refine wp_cond_split r1 (fun hb => ihx p k2 σ tm a Q Q' I hf ha ht (h3 hb) hQ) fun hb => ihy q k3 σ tm a Q Q' I hf ha ht (h4 hb) hQ
  | block i x ihx =>
    intro code hk σ tm a Q Q' I hf ha ht h hQ
    cases code <;> simp only [CC.chk] at hk <;> first | (cases hk; done) | skip
    rename_i j c
    simp only [Bool.and_eq_true] at hk
    have := Nat.eq_of_beq_eq_true hk.1; subst this
    refine wp_block (ihx c hk.2 σ tm a _ _ I hf ha ht h fun e tm' a' σ' I' hf' ha' ht' hq => ?_)
    cases e
    case exit j =>
      show if j = i then _ else _
      dsimp only at hq
      split
      · rename_i e; rw [if_pos e] at hq; exact hQ _ _ _ _ I' hf' ha' ht' hq
      · rename_i e; rw [if_neg e] at hq; exact hQ (.exit j) _ _ _ I' hf' ha' ht' hq
    all_goals exact hQ _ _ _ _ I' hf' ha' ht' hq
  | loop x ihx =>
    intro code hk σ tm a Q Q' I hf ha ht h hQ
    cases code <;> simp only [CC.chk] at hk <;> first | (cases hk; done) | skip
    rename_i c
    obtain ⟨J, ⟨n, h0⟩, hstep⟩ := h
    refine wp_loop_idx (fun n a w => ∃ tm σ, σ.w = w ∧ Inv σ ∧ RepF σ (lk tm) a ∧ okAct nt a ∧ Tr σ0.H.length σ0 σ ∧ J n tm σ.H) n ⟨tm, σ, rfl, I, hf, ha, ht, h0⟩ ?_
    rintro n a' w' ⟨tm', σ', rfl, I', hf', ha', ht', hJ⟩
    refine ihx c hk σ' tm' a' _ _ I' hf' ha' ht' (hstep n tm' σ'.H hJ) fun e tm'' a'' σ'' I'' hf'' ha'' ht'' hq => ?_
    cases e
    case normal =>
      obtain ⟨m, hm, hJ'⟩ := hq
      exact ⟨m, hm, tm'', σ'', rfl, I'', hf'', ha'', ht'', hJ'⟩
    all_goals exact hQ _ _ _ _ I'' hf'' ha'' ht'' hq
  | scope l x r ihx ihr =>
    intro code hk σ tm a Q Q' I hf ha ht h hQ
    cases code <;> simp only [CC.chk] at hk <;> first | (cases hk; done) | skip
    rename_i c
    simp only [Bool.and_eq_true] at hk
    obtain ⟨k1, k2⟩ := hk
    split at k2
    · rename_i rest hr
      obtain ⟨J, h0, hstep⟩ := h
      refine wp_scope_idx l (fun n a w => ∃ tm σ, σ.w = w ∧ Inv σ ∧ RepF σ (lk tm) a ∧ okAct nt a ∧ Tr σ0.H.length σ0 σ ∧ J n tm σ.H) hr (ihx c k1 σ tm a _ _ I hf ha ht h0 fun e tm'' a'' σ'' I'' hf'' ha'' ht'' hq => ?_) ?_
      · cases e
        case goto l' =>
          obtain ⟨e, n, hJ'⟩ := hq
          exact ⟨e, n, tm'', σ'', rfl, I'', hf'', ha'', ht'', hJ'⟩
        all_goals exact hQ _ _ _ _ I'' hf'' ha'' ht'' hq
      · rintro n a' w' ⟨tm', σ', rfl, I', hf', ha', ht', hJ⟩
        refine ihr rest k2 σ' tm' a' _ _ I' hf' ha' ht' (hstep n tm' σ'.H hJ) fun e tm'' a'' σ'' I'' hf'' ha'' ht'' hq => ?_
        cases e
        case goto l' =>
          obtain ⟨e, m, hm, hJ'⟩ := hq
          exact ⟨e, m, hm, tm'', σ'', rfl, I'', hf'', ha'', ht'', hJ'⟩
        all_goals exact hQ _ _ _ _ I'' hf'' ha'' ht'' hq
    · cases k2
  | wk x ihx =>
    intro code hk σ tm a Q Q' I hf ha ht h hQ
    have hk' : x.chk P nt code = true := by cases code <;> simpa only [CC.chk] using hk
    obtain ⟨tm', H', hw, h⟩ := h
    obtain ⟨σ', e1, e2, I', hf', ht'⟩ := hw σ a rfl I hf
    rw [← e1]
    exact ihx code hk' σ' tm' a Q Q' I' hf' ha (ht.trans ht') (by rw [e2]; exact h) hQ
end
end Go.Abs
end
