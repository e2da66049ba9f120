/-
  Abstract code against the model's: a slice against nil, an append into a block of one's own, clear. Abstract code against the model's: one operation, whatever it is. Abstract code against the model's: an operation in its place, with its guard.
  Conditions: those that stand ahead of each theorem; no more.
-/
import Derived.Laws.Cover3
import Derived.Test.YtblnejkfaniljaaGreatDoorT09

section
namespace Go.Abs
open Go

section
variable {P : Program} {σ : St} {ρ : Nat → V} {a : Act} {o : Oper} {K : V → HP → Prop}

theorem eff_nilSl {neg : Bool} {x : Opd} (hk : chkEff P o.op (.nilSl neg x) = true) (I : Inv σ) (hf : RepF σ ρ a) (ht : there ρ [x] = true) (he : eve (.nilSl neg x) (val ρ) σ.H K) : Does P (execOp a.eval o) σ K := by
  rw [there_cons] at ht
  cases ho : o.op <;> simp only [ho, chkEff] at hk <;> first | (cases hk; done) | skip
  rename_i op t p q ty
  split at hk <;> first | (cases hk; done) | skip
  rename_i op' t' p' ty' heq
  cases heq
  simp only [Bool.and_eq_true, beq_iff_eq] at hk
  obtain ⟨⟨h0, h2⟩, h3⟩ := hk
  have r1 := opd_rep hf h2 ht.1
  obtain ⟨u, g1, g2⟩ := isDesc_spec h3
  cases u <;> simp at g2
  have key : ∀ (ad : Option Addr) (l c : Nat), a.eval p = .slice ad l c → (execOp a.eval o).run P σ.w = .ok (.value (.bool (if neg then !ad.isNone else ad.isNone))) σ.w := by
    intro ad l c e1
    have hq : a.eval (.const (.slice none 0 0)) = .slice none 0 0 := rfl
    have hg : ∀ op, (eqGuard op t p (.const (.slice none 0 0)) (.slice ad l c) (.slice none 0 0)).run P σ.w = .ok () σ.w := fun op => by unfold eqGuard; split <;> rfl
    have heq := run_equal_slice_nil (P := P) σ.w t _ ad l c g1
    simp only [execOp, ho, e1, hq, Sem.run_bind, hg, Result.andThen_ok]
    cases neg <;> simp at h0 <;> subst h0
    · simp only [binOp, Sem.run_bind, heq, Result.andThen_ok, Sem.run_pure, Bool.false_eq_true, if_false]
    · simp only [binOp, Sem.run_bind, heq, Result.andThen_ok, Sem.run_pure, if_true]
  simp only [eve] at he
  split at he
  · rename_i sz xs tk e1
    rw [e1] at r1
    obtain ⟨ad, cap, k1, k2, k3, k4⟩ := repV_sl.1 r1
    refine ⟨_, _, σ, .inl (key _ _ _ k1), I, repV_bool.2 rfl, Tr.refl _ _, he ad.isNone fun hn => ?_⟩
    rcases k4 with k4 | ⟨b, o', k4, _⟩
    · exact k4
    · rw [k4] at hn; cases hn
  · rename_i tt pp off len sz e1
    rw [e1] at r1
    obtain ⟨sh, o', l, cap, ad, k1, k2, k3, k4, k5, k6, k7, k8⟩ := repV_arr.1 r1
    refine ⟨_, _, σ, .inl (key _ _ _ k8), I, repV_bool.2 rfl, Tr.refl _ _, he ad.isNone fun hn => ?_⟩
    rcases Nat.eq_zero_or_pos len with h | h
    · exact h
    · rw [k7 h] at hn; cases hn
  · exact he.elim

theorem eff_appendA {sz bytes : Nat} {z : V} {x y : Opd} (hk : chkEff P o.op (.appendA sz bytes z x y) = true) (I : Inv σ) (hf : RepF σ ρ a) (ht : there ρ [x, y] = true) (he : eve (.appendA sz bytes z x y) (val ρ) σ.H K) : Does P (execOp a.eval o) σ K := by
  simp only [there_cons] at ht
  cases ho : o.op <;> simp only [ho, chkEff] at hk <;> first | (cases hk; done) | skip
  rename_i cl
  split at hk <;> first | (cases hk; done) | skip
  rename_i args tys hcl
  cases hcl
  split at hk <;> first | (cases hk; done) | skip
  rename_i a1 a2 t u ha hty
  simp only [Bool.and_eq_true, bne_iff_ne, ne_eq] at hk
  obtain ⟨⟨⟨⟨⟨⟨k1, k2⟩, k3⟩, k4⟩, k5⟩, k6⟩, k7⟩ := hk
  have ha' : args = #[a1, a2] := by apply Array.ext'; simpa using ha
  have hty' : tys = #[t, u] := by apply Array.ext'; simpa using hty
  subst ha'; subst hty'
  obtain ⟨e, hu, hs⟩ := sliceOf_spec k3
  obtain ⟨d, hd, hdi⟩ := isDesc_spec k7
  have hd' : ∀ k, d ≠ .int k := by rintro k rfl; simp at hdi
  have hze : zeroIs P e z = true := by simpa [zeroSl, hu] using k5
  have hi : ∃ i, P.info? e = some i := by
    unfold szIs at hs
    split at hs
    · rename_i i hi; exact ⟨i, hi⟩
    · cases hs
  obtain ⟨i, hi⟩ := hi
  have hsz : i.size = sz := by simpa [szIs, hi] using hs
  have hbt : i.bytes = bytes := by simpa [bytesOf, hu, bytesIs, hi] using k4
  have hzz : ∃ u, i.zero = some u ∧ constOk z u = true := by
    unfold zeroIs at hze
    rw [hi] at hze
    dsimp only at hze
    split at hze
    · rename_i u hu'; exact ⟨u, hu', hze⟩
    · cases hze
  obtain ⟨zv, hz, hzc⟩ := hzz
  have r1 := opd_rep hf k1 ht.1
  have r2 := opd_rep hf k2 ht.2.1
  have hdone : ∀ cv w', (Builtin.append_ #[t, u] o.type #[a.eval a1, a.eval a2]).run P σ.w = .ok cv w' → (execOp a.eval o).run P σ.w = .ok (.value cv) w' := by
    intro cv w' h
    simp only [execOp, ho, resolve, invoke, builtin, Sem.run_bind, Sem.run_pure, Result.andThen_ok, List.map_toArray, List.map_cons, List.map_nil, h]
  simp only [eve] at he
  split at he
  · rename_i sz' xs e1
    rw [e1] at r1
    split at he
    · rename_i ys hm
      obtain ⟨rfl, rfl, hms, hzs, hfit, he1, he2⟩ := he
      obtain ⟨base, cap, g1, g2, g3, g4⟩ := repV_sl.1 r1
      have g3 : cap = 0 := g3
      subst g3
      have g1 : a.eval a1 = .slice base 0 0 := g1
      obtain ⟨news, n1, n2, n3, n4⟩ := more_cells (P := P) I r2 hm
      rw [hms] at n2 n4
      by_cases h0 : ys = []
      · subst h0
        have hne : news = [] := n1
        subst hne
        refine ⟨_, .slice base 0 0, σ, .inl (hdone _ _ ?_), I, ?_, Tr.refl _ _, he1 rfl⟩
        · rw [g1]
          exact run_append_in (m := 0) (n := 0) hu hd hd' hs n3 (by omega) (n4 σ.w fun _ _ _ h => h) (by cases base <;> simp [storeCells])
        · exact repV_sl.2 ⟨base, 0, rfl, Nat.le_refl _, rfl, .inl rfl⟩
      · have hpos : 0 < ys.length := List.length_pos_iff.2 h0
        have hrun := run_append_out (P := P) (ty := o.type) (base := base) (n := 0) (cap := 0) (olds := []) hu hd hd' hi hz hsz n3 (by omega) (by rw [hbt]; exact k6) (by rw [hbt, Nat.zero_add]; exact hfit) (n4 σ.w.drew fun _ _ _ h => h) (by
          cases base with
          | none => simp [Builtin.firstCells]
          | some ad => exact run_firstCells_some _ _ 0 ad _ 0 [] (by simp) (by simp))
        have hnc : 0 + ys.length ≤ grownCap σ.w (0 + ys.length) 0 e := grownCap_ge _ _ _ _
        revert hrun hnc
        generalize grownCap σ.w (0 + ys.length) 0 e = nc
        intro hrun hnc
        rw [Nat.zero_add] at hrun hnc
        have hzr := zero_cells hzc σ
        let cells : Array Value := ([] : List Value).toArray ++ news.toArray ++ Builtin.zeroCells zv.cells (nc - ys.length)
        have hcl : cells.toList = news ++ (List.replicate (nc - ys.length) zv.cells.toList).flatten := by
          have : (Builtin.zeroCells zv.cells (nc - ys.length)).toList = (List.replicate (nc - ys.length) zv.cells.toList).flatten := by
            unfold Builtin.zeroCells
            exact zeros_flat zv.cells (nc - ys.length)
          simp [cells, this]
        have hrep : RepC σ (.agg (ys ++ List.replicate (nc - ys.length) z)) cells.toList := by
          rw [hcl]; exact RepL.append n1 (RepL.replicate hzr _)
        have hshape : ∀ x ∈ ys ++ List.replicate (nc - ys.length) z, x.shape.size = sz' := by
          intro x hx
          rcases List.mem_append.1 hx with hx | hx
          · exact n2 x hx
          · rw [(List.mem_replicate.1 hx).2]; exact hzs
        let w' : World := { σ.w.drew with heap := σ.w.heap.push (.cells cells e (0, 0)) }
        have htr := σ.ext_tr I (w' := w') (fun _ => False) (.cell (.agg (ys ++ List.replicate (nc - ys.length) z))) 0 true rfl rfl rfl rfl
        have hg := σ.ext_g_new w' (fun _ => False) (.cell (.agg (ys ++ List.replicate (nc - ys.length) z))) 0 true
        refine ⟨_, .slice (some ⟨σ.w.heap.size, 0, none⟩) ys.length nc, σ.ext w' (fun _ => False) (.cell (.agg (ys ++ List.replicate (nc - ys.length) z))) 0 true, .inl (hdone _ _ (by rw [g1]; exact hrun)),
          σ.ext_inv I (w' := w') _ _ _ _ rfl rfl rfl rfl ⟨cells, e, (0, 0), ?_, fun o _ h => by simp at h, RepC.mono htr.le _ _ hrep, ?_⟩, ?_, htr, he2 h0 (nc - ys.length)⟩
        · rw [hg.1]; exact Array.getElem?_push_size
        · rw [hg.1]; exact noS_new I w' _ 0 true
        · refine repV_arr.2 ⟨(V.agg (ys ++ List.replicate (nc - ys.length) z)).shape, 0, V.shapeL (ys ++ List.replicate (nc - ys.length) z), nc, some ⟨σ.w.heap.size, 0, none⟩, shapeAt_cell (by simp [St.ext]), by rw [V.shape_agg]; rfl, by rw [V.shape_agg]; rfl, ?_, by rw [V.shapeL_length]; simp, hnc, fun _ => by rw [hg.1]; simp, rfl⟩
          intro s hs'
          rw [V.shapeL_eq] at hs'
          obtain ⟨x, hx, rfl⟩ := List.mem_map.1 hs'
          exact hshape x hx
    · exact he.elim
  · exact he.elim

/-- A window of an array written. -/
theorem wr_window (I : Inv σ) {tb oo off k sz : Nat} {p : List Nat} {v v' : V} {xs zs : List V} {news : List Value} {ad : Option Addr} (hv : σ.H[tb]? = some (.cell v)) (hx : v.at p = some (.agg xs)) (hsz : ∀ x ∈ xs, x.shape.size = sz)
    (ho : v.shape.off p = some oo) (hok : off + k ≤ xs.length) (hzl : zs.length = k) (n1 : RepL σ zs news) (n2 : ∀ x ∈ zs, x.shape.size = sz) (hsh : ∀ i, i < k → (zs.map V.shape)[i]? = (xs.map V.shape)[off + i]?)
    (hv' : v.setAt p (.agg (xs.take off ++ zs ++ xs.drop (off + k))) = some v') (had : 0 < k → ad = some ⟨σ.g.b tb, oo + off * sz, none⟩) :
    ∃ σ', (match ad with | some a => storeCells a news | none => pure ()).run P σ.w = .ok () σ'.w ∧ Inv σ' ∧ Tr σ.H.length σ σ' ∧ σ'.H = σ.H.set tb (.cell v') := by
  obtain ⟨cs, ee, fr, b1, b2, b3, b4⟩ := I.blk tb _ hv
  obtain ⟨o', q1, q2, q3, q4⟩ := rep_at b3 hx
  rw [q1] at ho
  cases ho
  have hnk : news.length = k * sz := by rw [RepL.length_const n1 n2, hzl]
  have hxl : (V.agg xs).shape.size = xs.length * sz := by
    have q2' : RepL σ xs _ := q2
    rw [← RepL.length_const q2' hsz, List.length_take, List.length_drop]; omega
  have e1' : Sh.sizeL (V.shapeL (xs.take off)) = off * sz := by rw [← V.shapeL_take]; exact Sh.sizeL_const (uniform_shape hsz) (by rw [V.shapeL_length]; omega)
  have e2' : Sh.sizeL (V.shapeL (xs.take (off + k))) = (off + k) * sz := by rw [← V.shapeL_take]; exact Sh.sizeL_const (uniform_shape hsz) (by rw [V.shapeL_length]; omega)
  let part := (cs.toList.drop oo).take (V.agg xs).shape.size
  have hoff : (off + k) * sz ≤ xs.length * sz := Nat.mul_le_mul_right _ hok
  have hadd : (off + k) * sz = off * sz + k * sz := Nat.add_mul _ _ _
  let c' := part.take (off * sz) ++ news ++ part.drop (off * sz + news.length)
  have hrc : RepC σ (.agg (xs.take off ++ zs ++ xs.drop (off + k))) c' := by
    show RepL σ _ _
    have q2' : RepL σ xs part := q2
    have m1 := RepL.take off q2'
    have m3 := RepL.drop (off + k) q2'
    rw [e1'] at m1
    rw [e2', hadd, ← hnk] at m3
    exact RepL.append (RepL.append m1 n1) m3
  have hshape : (V.agg (xs.take off ++ zs ++ xs.drop (off + k))).shape = (V.agg xs).shape := by
    rw [V.shape_agg, V.shape_agg, V.shapeL_eq, V.shapeL_eq]
    congr 1
    apply List.ext_getElem?
    intro j
    have hj := hsh (j - off)
    simp only [List.map_append, List.map_take, List.map_drop, List.append_assoc, List.getElem?_append, List.length_take, List.length_map, List.getElem?_take, List.getElem?_drop]
    have ho1 : min off xs.length = off := by omega
    rw [ho1, hzl]
    by_cases h1 : j < off
    · simp only [h1, if_true]
    · simp only [h1, if_false]
      by_cases h2 : j - off < k
      · simp only [h2, if_true]
        rw [hj h2]; congr 1; omega
      · simp only [h2, if_false]
        congr 1; omega
  obtain ⟨m1, m2⟩ := rep_setAt b3 hx hv' hrc hshape q1
  have hcl : oo + off * sz + 0 + news.length ≤ cs.size := by
    have : oo + xs.length * sz ≤ cs.size := by rw [hxl] at q3; simpa using q3
    omega
  have hstore : ∃ w', (match ad with | some a => storeCells a news | none => pure ()).run P σ.w = .ok () w' ∧ w'.os = σ.w.os ∧ w'.tape = σ.w.tape ∧ w'.output = σ.w.output ∧ w'.heap.size = σ.w.heap.size ∧ (∀ c, c ≠ σ.g.b tb → w'.heap[c]? = σ.w.heap[c]?) ∧
      ∃ cur', w'.heap[σ.g.b tb]? = some (.cells cur' ee fr) ∧ cur'.toList = cs.toList.take (oo + off * sz) ++ news ++ cs.toList.drop (oo + off * sz + news.length) := by
    by_cases h0 : k = 0
    · have hz : news = [] := List.length_eq_zero_iff.1 (by rw [hnk, h0]; simp)
      rw [hz]
      exact ⟨σ.w, by cases ad <;> simp [storeCells], rfl, rfl, rfl, rfl, fun _ _ => rfl, cs, b1, by simp⟩
    · have had := had (by omega)
      subst had
      obtain ⟨w', p1, p2, p3, p4, p5, p6, cur', p7, p8⟩ := run_storeCells (P := P) news (oo + off * sz) 0 cs σ.w b1 b2 hcl (RepL.one n1)
      exact ⟨w', p1, p2, p3, p4, p5, p6, cur', p7, by simpa using p8⟩
  obtain ⟨w', p1, p2, p3, p4, p5, p6, cur', p7, p8⟩ := hstore
  have hlist := copy_list cs.toList c' news oo (off * sz) (V.agg xs).shape.size q3 rfl (by rw [hnk, hxl]; omega)
  rw [← p8] at hlist
  rw [hlist] at m1
  have hw : Wr σ w' tb := ⟨p2, p3, p4, p5, p6⟩
  have hk2 : sameKind (.cell v) (.cell v') := m2
  have hle := (St.wr_tr I hw hv hk2 σ.H.length).le
  refine ⟨σ.wr w' tb (.cell v'), p1, St.wr_inv I hw hv hk2 ⟨cur', ee, fr, p7, fun o hlt => b2 o ?_, RepC.mono hle _ _ m1, fun o => noS I hv hk2 o⟩, St.wr_tr I hw hv hk2 _, rfl⟩
  have h3 := congrArg List.length p8
  simp only [List.length_append, List.length_take, List.length_drop, Array.length_toList] at h3
  omega

theorem eff_clear {sz : Nat} {z : V} {x : Opd} (hk : chkEff P o.op (.clear sz z x) = true) (I : Inv σ) (hf : RepF σ ρ a) (ht : there ρ [x] = true) (he : eve (.clear sz z x) (val ρ) σ.H K) : Does P (execOp a.eval o) σ K := by
  rw [there_cons] at ht
  cases ho : o.op <;> simp only [ho, chkEff] at hk <;> first | (cases hk; done) | skip
  rename_i cl
  split at hk <;> first | (cases hk; done) | skip
  rename_i args tys hcl
  cases hcl
  split at hk <;> first | (cases hk; done) | skip
  rename_i a1 t ha hty
  simp only [Bool.and_eq_true] at hk
  obtain ⟨⟨k1, k2⟩, k3⟩ := hk
  have ha' : args = #[a1] := by apply Array.ext'; simpa using ha
  have hty' : tys = #[t] := by apply Array.ext'; simpa using hty
  subst ha'; subst hty'
  obtain ⟨e, hu, hs⟩ := sliceOf_spec k2
  have hze : zeroIs P e z = true := by simpa [zeroSl, hu] using k3
  obtain ⟨zv, hzc, hzrun⟩ := run_zero hze
  have r1 := opd_rep hf k1 ht.1
  have hdone : ∀ w', (Builtin.clear_ #[t] o.type #[a.eval a1]).run P σ.w = .ok (.tuple #[]) w' → (execOp a.eval o).run P σ.w = .ok (.value (.tuple #[])) w' := by
    intro w' h
    simp only [execOp, ho, resolve, invoke, builtin, Sem.run_bind, Sem.run_pure, Result.andThen_ok, List.map_toArray, List.map_cons, List.map_nil, h]
  simp only [eve] at he
  split at he
  · rename_i sz' xs tk e1
    obtain ⟨rfl, hK⟩ := he
    rw [e1] at r1
    obtain ⟨ad, cap, g1, g2, g3, g4⟩ := repV_sl.1 r1
    refine ⟨.tup [], .tuple #[], σ, .inl (hdone _ ?_), I, repV_tup.2 ⟨#[], rfl, rfl⟩, Tr.refl _ _, hK⟩
    rw [g1]
    cases ad <;> simp [Builtin.clear_, run_underlying hu]
  · rename_i tb p off len sz' e1
    rw [e1] at r1
    obtain ⟨sh, oo, l, cap, ad, g1, g2, g3, g4, g5, g6, g7, g8⟩ := repV_arr.1 r1
    split at he
    · rename_i v hv
      split at he
      · rename_i xs hx
        obtain ⟨rfl, hsh, he⟩ := he
        split at he
        · rename_i v' hv'
          obtain ⟨cs, ee, fr, b1, b2, b3, b4⟩ := I.blk tb _ hv
          rw [shapeAt_cell hv] at g1
          cases g1
          obtain ⟨o', q1, q2, q3, q4⟩ := rep_at b3 hx
          rw [g2, V.shape_agg] at q4
          cases q4
          have hsz : ∀ x ∈ xs, x.shape.size = sz' := fun x hx => g4 _ (by rw [V.shapeL_eq]; exact List.mem_map_of_mem hx)
          rw [V.shapeL_length] at g5
          have hzr := zero_cells hzc σ
          have hzsz : 0 < len → z.shape.size = sz' := fun h => by
            have h1 := hsh 0 h
            rw [List.getElem?_map, Option.map_eq_some_iff] at h1
            obtain ⟨y, h2, h3⟩ := h1
            rw [← h3]; exact hsz y (List.mem_of_getElem? h2)
          obtain ⟨σ', m1, m2, m3, m4⟩ := wr_window (P := P) I (zs := List.replicate len z) (news := (List.replicate len zv.cells.toList).flatten) (k := len) (ad := ad) hv hx hsz g3 g5 (by simp) (RepL.replicate hzr len)
            (fun x hx => by obtain ⟨h1, h2⟩ := List.mem_replicate.1 hx; rw [h2]; exact hzsz (by omega))
            (fun i hi => by rw [hsh i hi]; simp [hi]) hv' g7
          refine ⟨.tup [], .tuple #[], σ', .inl (hdone _ ?_), m2, repV_tup.2 ⟨#[], rfl, rfl⟩, m3, by rw [m4]; exact he⟩
          rw [g8]
          have hzeros : (Builtin.zeroCells zv.cells len).toList = (List.replicate len zv.cells.toList).flatten := by
            unfold Builtin.zeroCells
            exact zeros_flat zv.cells len
          cases ad with
          | none =>
            have h0 : len = 0 := by
              rcases Nat.eq_zero_or_pos len with h | h
              · exact h
              · have := g7 h; cases this
            have m1' : σ.w = σ'.w := by simpa using m1
            rw [← m1']
            simp [Builtin.clear_, run_underlying hu]
          | some ad =>
            cases len with
            | zero =>
              have m1' : σ.w = σ'.w := by simpa [storeCells] using m1
              rw [← m1']
              simp [Builtin.clear_, run_underlying hu]
            | succ len =>
              have m1' : (storeCells ad (List.replicate (len + 1) zv.cells.toList).flatten).run P σ.w = .ok () σ'.w := m1
              unfold Builtin.clear_
              simp only [List.getElem?_toArray, List.getElem?_cons_zero, Sem.run_bind, run_underlying hu, Result.andThen_ok, hzrun, hzeros, m1', Sem.run_pure]
        · exact he.elim
      · exact he.elim
    · exact he.elim
  · exact he.elim
end
end Go.Abs
end

section
namespace Go.Abs
open Go

def COp.tdOk : COp → Bool
  | .eqv td _ _ _ | .lookup td _ _ _ _ | .mapup td _ _ _ => decide (td.depth < 10000)
  | _ => true

section
variable {P : Program} {σ : St} {ρ : Nat → V} {a : Act} {o : Oper} {v : V} {c : Prop}

theorem pure_sound {cop : COp} (hk : chkPure P o.op cop = true) (hd : cop.tdOk = true) (I : Inv σ) (hf : RepF σ ρ a) (ht : there ρ cop.opds = true) (he : evp cop (val ρ) σ.H = some (c, v)) (hc : c) : Yields P (execOp a.eval o) σ v := by
  cases cop <;> first | (simp only [evp] at he; cases he; done) | skip
  · simp only [evp, Option.some.injEq, Prod.mk.injEq] at he
    obtain ⟨_, rfl⟩ := he
    exact sound_mv hk I hf ht
  · exact sound_bin hk I hf ht he hc
  · exact sound_not hk I hf ht he
  · exact sound_un hk I hf ht he
  · exact sound_eqv hk (by simpa [COp.tdOk] using hd) I hf ht he hc
  · exact sound_isNil hk I hf ht he
  · exact sound_conv hk I hf ht he
  · exact sound_same hk I hf ht he
  · exact sound_b2s hk I hf ht he hc
  · exact sound_s2b hk I hf ht he
  · exact sound_fld hk I hf ht he hc
  · exact sound_faddr hk I hf ht he hc
  · exact sound_iaddr hk I hf ht he hc
  · exact sound_iaddrA hk I hf ht he hc
  · exact sound_idxS hk I hf ht he hc
  · exact sound_idxA hk I hf ht he hc
  · exact sound_load hk I hf ht he hc
  · exact sound_sliceS hk I hf ht he hc
  · exact sound_slice hk I hf ht he hc
  · exact sound_slice3 hk I hf ht he hc
  · exact sound_sliceA hk I hf ht he hc
  · exact sound_len hk I hf ht he
  · exact sound_extract hk I hf ht he
  · exact sound_mkfn hk I hf ht he hc
  · exact sound_nilchk hk I hf ht he
  · exact sound_build hk I hf ht he hc
  · exact sound_lit hk I hf ht he hc
  · exact sound_lookup hk (by simpa [COp.tdOk] using hd) I hf ht he hc
  · exact sound_mm hk I hf ht he hc
  · exact sound_s2ap hk I hf ht he hc

theorem eff_sound {K : V → HP → Prop} {cop : COp} (hk : chkEff P o.op cop = true) (hd : cop.tdOk = true) (I : Inv σ) (hf : RepF σ ρ a) (ht : there ρ cop.opds = true) (he : eve cop (val ρ) σ.H K) : Does P (execOp a.eval o) σ K := by
  cases cop
  case alloc => exact eff_alloc hk I he
  case box => exact eff_box hk I hf ht he
  case store => exact eff_store hk I hf ht he
  case append => exact eff_append hk I hf ht he
  case mkslA => exact eff_mkslA hk I hf ht he
  case mkslR => exact eff_mkslR hk I hf ht he
  case mkmap => exact eff_mkmap hk I he
  case mapup => exact eff_mapup hk (by simpa [COp.tdOk] using hd) I hf ht he
  case copyA => exact eff_copyA hk I hf ht he
  case nilSl => exact eff_nilSl hk I hf ht he
  case appendA => exact eff_appendA hk I hf ht he
  case clear => exact eff_clear hk I hf ht he
  all_goals first | (simp only [eve] at he; done) | (cases ho : o.op <;> simp [chkEff] at hk; done)
end
end Go.Abs
end

section
namespace Go.Abs
open Go

def eqDst : Option Nat → Option Nat → Bool
  | none, none => true
  | some a, some b => Nat.beq a b
  | _, _ => false

theorem eqDst_eq {a b : Option Nat} (h : eqDst a b = true) : a = b := by
  cases a <;> cases b <;> simp_all [eqDst]

def chkGuard (ops : Array Oper) : Option (Nat × Bool) → Option (Nat × Bool) → Bool
  | none, none => true
  | some (j, b), some (t, b') => (b == b') && eqDst ((ops[j]?).bind (·.dst)) (some t)
  | _, _ => false

def chkOp (P : Program) (o : Op) : COp → Bool
  | .call f args => match o with
    | .call { callee := .value (.func g), args := as, argTypes := _ } => Nat.beq f g && chkOpds as.toList args
    | _ => false
  | .callv x args => match o with
    | .call { callee := .value y, args := as, argTypes := _ } => chkOpd y x && chkOpds as.toList args
    | _ => false
  | .pick c x y => match o with
    | .pick c' x' y' => chkOpd c' c && chkOpd x' x && chkOpd y' y
    | _ => false
  | cop => (chkPure P o cop || chkEff P o cop) && cop.tdOk

def dstOk (nt : Nat) : Option Nat → Bool
  | some d => decide (d < nt)
  | none => true

/-- Does an abstract operation stand for this one, in its place? -/
def chkOper (P : Program) (ops : Array Oper) (nt : Nat) (o : Oper) (co : COper) : Bool :=
  eqDst o.dst co.dst && dstOk nt o.dst && chkGuard ops o.guard co.grd && chkOp P o.op co.op

section
variable {P : Program} {σ : St} {ρ : Nat → V} {a : Act} {o : Oper}

theorem eff_none {cop : COp} {r : Opd → V} {H : HP} (h : chkEff P o.op cop = true) : evp cop r H = none := by
  cases cop <;> first | rfl | (cases ho : o.op <;> simp [chkEff] at h; done)

theorem pure_none {cop : COp} {r : Opd → V} {H : HP} {K : V → HP → Prop} (h : chkPure P o.op cop = true) : ¬ eve cop r H K := by
  cases cop <;> first | exact fun h => h | (cases ho : o.op <;> simp [chkPure] at h; done)

theorem RepF.put {σ' : St} {d : Option Nat} {v : V} {cv : Value} (h : Le σ σ') (hf : RepF σ ρ a) (hr : RepV σ' v cv) (hd : dstOk a.tmps.size d = true) : RepF σ' (upd ρ d v) (a.put d cv) := by
  intro i
  cases d with
  | none => exact RepV.mono h _ _ (hf i)
  | some d =>
    simp only [dstOk, decide_eq_true_eq] at hd
    simp only [upd, Act.put]
    by_cases e : d = i
    · subst e
      simp [hd]
      exact hr
    · have : (a.tmps.setIfInBounds d cv).getD i undef = a.tmps.getD i undef := by
        simp [Array.getD_eq_getD_getElem?, Array.getElem?_setIfInBounds_ne e]
      rw [if_neg e, this]
      exact RepV.mono h _ _ (hf i)

theorem put_size (a : Act) (d : Option Nat) (v : Value) : (a.put d v).tmps.size = a.tmps.size := by
  cases d <;> simp [Act.put]
theorem put_defers (a : Act) (d : Option Nat) (v : Value) : (a.put d v).defers = a.defers := by
  cases d <;> rfl

mutual
theorem RepC.vw : ∀ (v : V) (cs : List Value), RepC σ v cs → RepC σ v.vw cs
  | .sl sz xs tk, cs, h => by obtain ⟨x, cap, h1, h2, h3, h4⟩ := h; exact ⟨x, cap, h1, h2, trivial, h4⟩
  | .agg xs, cs, h => RepL.vw xs cs h
  | .junk, cs, h | .int .., cs, h | .bool .., cs, h | .str .., cs, h | .arr .., cs, h | .ptr .., cs, h | .nilp, cs, h | .box .., cs, h | .map .., cs, h | .nilmap, cs, h | .mapv .., cs, h | .fn .., cs, h | .nilfn, cs, h | .tup .., cs, h | .opt .., cs, h => h
theorem RepL.vw : ∀ (xs : List V) (cs : List Value), RepL σ xs cs → RepL σ (V.vwL xs) cs
  | [], _cs, h => h
  | x :: xs, _, ⟨c, d, h1, h2, h3⟩ => ⟨c, d, h1, RepC.vw x c h2, RepL.vw xs d h3⟩
end

theorem RepV.vw {v : V} {c : Value} (h : RepV σ v c) : RepV σ v.vw c := by
  cases v <;> try exact h
  · obtain ⟨l, h1, h2⟩ := h
    exact ⟨l, RepC.vw _ _ h1, h2⟩
  · obtain ⟨l, h1, h2⟩ := h
    exact ⟨l, RepC.vw _ _ h1, h2⟩

theorem wanted_of {ops : Array Oper} {t : Nat} {b g : Bool} (hg : chkGuard ops o.guard (some (t, b)) = true) (hf : RepF σ ρ a) (h : guardOf (ρ t) b = some g) : Region.wanted o (yielded ops a.tmps) = g := by
  unfold chkGuard at hg
  split at hg
  · rename_i h1 h2; cases h2
  · rename_i j b0 t0 b1 h1 h2
    cases h2
    simp only [Bool.and_eq_true, beq_iff_eq] at hg
    obtain ⟨rfl, hj⟩ := hg
    have hj := eqDst_eq hj
    have hr := hf t
    have hy : ∀ x : Value, a.tmps.getD t undef = x → yielded ops a.tmps j = (match x with | .bool b => some b | _ => none) := by
      intro x hx
      subst hx
      unfold yielded
      rw [hj]
      simp only [Option.bind_some, Array.getD_eq_getD_getElem?]
      cases a.tmps[t]? with
      | none => rfl
      | some x => cases x <;> rfl
    simp only [Region.wanted, h1]
    cases hv : ρ t <;> rw [hv] at h hr <;> simp only [guardOf] at h <;> try (cases h; done)
    · cases h
      rw [hy _ (repV_bool.1 hr)]
      rename_i x
      cases x <;> cases b0 <;> rfl
    · rename_i g' v'
      cases v' <;> simp only [] at h <;> try (cases h; done)
      rename_i x
      cases h
      cases g' with
      | true =>
        rw [hy _ (repV_bool.1 (hr.1 rfl))]
        cases x <;> cases b0 <;> rfl
      | false =>
        rw [hy _ (hr.2 rfl)]
        rfl
  · cases hg

theorem repAll_append : ∀ {xs ys : List V} {cs ds : List Value}, RepAll σ xs cs → RepAll σ ys ds → RepAll σ (xs ++ ys) (cs ++ ds)
  | [], ys, cs, ds, h, k => by have : cs = [] := h; subst this; exact k
  | x :: xs, ys, _, ds, ⟨c, d, rfl, h1, h2⟩, k => ⟨c, d ++ ds, rfl, h1, repAll_append h2 k⟩

theorem repAll_of_vs : ∀ {xs : List V} {cs : List Value}, RepVs σ xs cs → RepAll σ xs cs
  | [], _, h => h
  | _x :: _xs, _, ⟨c, d, _l, h1, h2, h3, h4⟩ => ⟨c, d, h1, RepC.repV h2 h3, repAll_of_vs h4⟩

theorem args_rep (hf : RepF σ ρ a) {as : List Operand} {args : List Opd} (h : chkOpds as args = true) (ht : there ρ args = true) : RepAll σ (args1 ρ args) (as.map a.eval) := by
  have := opds_rep hf h ht
  unfold args1
  revert this
  generalize as.map a.eval = cs
  clear h ht
  induction args generalizing cs with
  | nil => exact id
  | cons x xs ih =>
    rintro ⟨c, d, rfl, h1, h2⟩
    exact ⟨c, d, rfl, RepV.vw h1, ih d h2⟩

/-- A call, resolved. -/
theorem call_run {cop : COp} {f : Nat} {vs : List V} (hk : chkOp P o.op cop = true) (hf : RepF σ ρ a) (ht : there ρ cop.opds = true) (htg : target ρ cop = some (f, vs)) :
    ∃ cargs : List Value, RepAll σ vs cargs ∧ execOp a.eval o = callFunc f cargs.toArray := by
  cases cop <;> simp only [target] at htg <;> try (cases htg; done)
  · rename_i g args
    cases htg
    cases ho : o.op <;> simp only [ho, chkOp] at hk <;> first | (cases hk; done) | skip
    rename_i cl
    split at hk <;> first | (cases hk; done) | skip
    rename_i g' as tys hcl
    cases hcl
    simp only [Bool.and_eq_true] at hk
    obtain ⟨he, hk⟩ := hk
    have he := Nat.eq_of_beq_eq_true he
    subst he
    refine ⟨_, args_rep hf hk ht, ?_⟩
    simp only [execOp, ho, resolve, Act.eval, Deferred.ofValue, pure_bind, invoke]
    congr 1
    apply Array.ext'
    simp
  · rename_i x args
    split at htg
    · rename_i f' first cap hv
      cases htg
      simp only [COp.opds, there_cons] at ht
      cases ho : o.op <;> simp only [ho, chkOp] at hk <;> first | (cases hk; done) | skip
      rename_i cl
      split at hk <;> first | (cases hk; done) | skip
      rename_i y as tys hcl
      cases hcl
      simp only [Bool.and_eq_true] at hk
      obtain ⟨k1, k2⟩ := hk
      have r1 := opd_rep hf k1 ht.1
      rw [hv] at r1
      obtain ⟨cf, cc, h1, h2, h3⟩ := repV_fn.1 r1
      refine ⟨cf.toList ++ as.toList.map a.eval ++ cc.toList, repAll_append (repAll_append (repAll_of_vs h2) (args_rep hf k2 ht.2)) (repAll_of_vs h3), ?_⟩
      simp only [execOp, ho, resolve, h1, Deferred.ofValue, pure_bind, invoke]
      congr 1
      apply Array.ext'
      simp
    · cases htg

theorem target_none {cop : COp} (hk : chkOp P o.op cop = true) (ht : target ρ cop = none) (h : (∃ H c v, pure1 cop ρ H = some (c, v)) ∨ ∃ H K, eve cop (val ρ) H K) :
    (∃ c x y, cop = .pick c x y) ∨ ((chkPure P o.op cop = true ∨ chkEff P o.op cop = true) ∧ cop.tdOk = true ∧ ∀ H, pure1 cop ρ H = match evp cop (val ρ) H with | some (c, v) => some (there ρ cop.opds = true ∧ c, v) | none => none) := by
  cases cop
  case pick => exact .inl ⟨_, _, _, rfl⟩
  case call => simp [target] at ht
  case callv => rcases h with ⟨_, _, _, h⟩ | ⟨_, _, h⟩ <;> simp [pure1, evp, eve] at h
  all_goals
    simp only [chkOp, Bool.and_eq_true, Bool.or_eq_true] at hk
    exact .inr ⟨hk.1, hk.2, fun _ => rfl⟩

theorem upon_value {next : Act → World → Prop} {Q : Exit → Act → World → Prop} {w w' : World} {cv : Value} (h : (execOp a.eval o).run P w = .ok (.value cv) w' ∨ ((execOp a.eval o).run P w = .ok .skip w' ∧ cv = undef)) (hn : next (a.put o.dst cv) w') : o.wp P a w next Q := by
  unfold Oper.wp
  rcases h with h | ⟨h, rfl⟩ <;> rw [h] <;> exact hn

theorem upon_call {next : Act → World → Prop} {Q : Exit → Act → World → Prop} {w : World} {R : Value → World → Prop} (h : Answers P ((execOp a.eval o).run P w) R) (hn : ∀ cv w', R cv w' → next (a.put o.dst cv) w') : o.wp P a w next Q := by
  unfold Oper.wp
  unfold Answers at h
  split at h
  · rename_i h'; rw [h']; exact hn _ _ h
  · rename_i h'; rw [h']
    refine Calls.mono h fun e w' ⟨v, h1, h2⟩ => ?_
    subst h1
    exact hn _ _ h2
  · exact h.elim

theorem pick_sound {c x y : Opd} {cd : Prop} {v : V} (hk : chkOp P o.op (.pick c x y) = true) (hf : RepF σ ρ a) (he : pickP ρ c x y = some (cd, v)) (hc : cd) : ∃ cv, (execOp a.eval o).run P σ.w = .ok (.value cv) σ.w ∧ RepV σ v cv := by
  cases ho : o.op <;> simp only [ho, chkOp] at hk <;> first | (cases hk; done) | skip
  rename_i c' x' y'
  simp only [Bool.and_eq_true] at hk
  obtain ⟨⟨h1, h2⟩, h3⟩ := hk
  unfold pickP at he
  split at he
  · rename_i g hv
    cases he
    obtain ⟨hu, hc⟩ := hc
    have r1 := opd_rep hf h1 hu
    rw [hv, repV_bool] at r1
    have key : RepV σ (cond g (val ρ x) (val ρ y)) (if g then a.eval x' else a.eval y') := by
      cases g with
      | true => exact opd_rep hf h2 (hc.1 rfl)
      | false => exact opd_rep hf h3 (hc.2 rfl)
    have hsel : sel g (val ρ x) (val ρ y) = cond g (val ρ x) (val ρ y) := by
      unfold sel
      split
      · cases g <;> simp_all
      · split
        · rename_i e; subst e; cases g <;> simp_all
        · cases g <;> simp_all
      · rfl
    rw [hsel]
    refine ⟨_, ?_, key⟩
    simp only [execOp, ho, r1, Sem.run_bind, asBool, Sem.run_pure, Result.andThen_ok]
  · cases he

theorem op_sound {ops : Array Oper} {nt : Nat} {co : COper} (hk : chkOper P ops nt o co = true) (I : Inv σ) (hf : RepF σ ρ a) {K : V → HP → Prop} (h : OPW P co ρ σ.H K) {next : Act → World → Prop} {Q : Exit → Act → World → Prop}
    (hn : ∀ v cv σ', Inv σ' → RepV σ' v cv → Tr σ.H.length σ σ' → K v σ'.H → next (a.put o.dst cv) σ'.w) :
    if Region.wanted o (yielded ops a.tmps) then o.wp P a σ.w next Q else next (a.put o.dst undef) σ.w := by
  simp only [chkOper, Bool.and_eq_true] at hk
  obtain ⟨⟨⟨h1, h2⟩, h3⟩, h4⟩ := hk
  obtain ⟨dst, cop, grd⟩ := co
  dsimp only at h1 h3 h4
  unfold OPW at h
  dsimp only at h
  cases grd with
  | none =>
    dsimp only at h
    have hw : Region.wanted o (yielded ops a.tmps) = true := by
      cases hg : o.guard with
      | none => simp [Region.wanted, hg]
      | some g => rw [hg] at h3; simp [chkGuard] at h3
    rw [if_pos hw]
    cases htg : target ρ cop with
    | some fv =>
      obtain ⟨f, vs⟩ := fv
      rw [htg] at h
      obtain ⟨ht, Q', hq, hqk⟩ := h
      obtain ⟨cargs, hr, he⟩ := call_run h4 hf ht htg
      have := hq σ cargs rfl I hr
      rw [← he] at this
      refine upon_call this fun cv w' ⟨r, σ', a1, a2, a3, a4, a5⟩ => ?_
      subst a1
      exact hn r cv σ' a2 a3 a4 (hqk _ _ a5)
    | none =>
      rw [htg] at h
      dsimp only at h
      cases hp : pure1 cop ρ σ.H with
      | some cv =>
        obtain ⟨c, v⟩ := cv
        rw [hp] at h
        obtain ⟨hc, hK⟩ := h
        rcases target_none h4 htg (.inl ⟨_, _, _, hp⟩) with ⟨c', x, y, rfl⟩ | ⟨hch, htd, hpp⟩
        · obtain ⟨cv, k1, k2⟩ := pick_sound h4 hf hp hc
          exact upon_value (.inl k1) (hn v cv σ I k2 (Tr.refl _ _) hK)
        · rw [hpp] at hp
          cases hev : evp cop (val ρ) σ.H with
          | none => rw [hev] at hp; cases hp
          | some q =>
            obtain ⟨c0, v0⟩ := q
            rw [hev] at hp
            cases hp
            have hch : chkPure P o.op cop = true := by
              rcases hch with h | h
              · exact h
              · rw [eff_none h] at hev; cases hev
            obtain ⟨cv, σ', k1, k2, k3, k4, k5⟩ := pure_sound hch htd I hf hc.1 hev hc.2
            exact upon_value (.inl k1) (hn v cv σ' k3 k4 k5 (by rw [k2]; exact hK))
      | none =>
        rw [hp] at h
        obtain ⟨ht, he⟩ := h
        rcases target_none h4 htg (.inr ⟨_, _, he⟩) with ⟨c', x, y, rfl⟩ | ⟨hch, htd, hpp⟩
        · exact he.elim
        · have hch : chkEff P o.op cop = true := by
            rcases hch with h | h
            · exact (pure_none h he).elim
            · exact h
          obtain ⟨v, cv, σ', k1, k2, k3, k4, k5⟩ := eff_sound hch htd I hf ht he
          exact upon_value k1 (hn v cv σ' k2 k3 k4 k5)
  | some tb =>
    obtain ⟨t, b⟩ := tb
    dsimp only at h
    cases hg : guardOf (ρ t) b with
    | none => rw [hg] at h; exact h.elim
    | some g =>
      rw [hg] at h
      dsimp only at h
      rw [wanted_of h3 hf hg]
      cases g with
      | false =>
        rw [if_neg (by simp)]
        cases htg : target ρ cop with
        | some fv =>
          rw [htg] at h
          obtain ⟨r, _, hK⟩ := h
          exact hn (.opt false r) undef σ I ⟨fun h => (by cases h), fun _ => rfl⟩ (Tr.refl _ _) hK
        | none =>
          rw [htg] at h
          dsimp only at h
          cases hp : pure1 cop ρ σ.H with
          | some cv =>
            rw [hp] at h
            exact hn (.opt false cv.2) undef σ I ⟨fun h => (by cases h), fun _ => rfl⟩ (Tr.refl _ _) h.2
          | none => rw [hp] at h; exact h.elim
      | true =>
        rw [if_pos rfl]
        cases htg : target ρ cop with
        | some fv =>
          obtain ⟨f, vs⟩ := fv
          rw [htg] at h
          obtain ⟨r, hr, hK⟩ := h
          obtain ⟨ht, hq⟩ := hr rfl
          obtain ⟨cargs, hr, he⟩ := call_run h4 hf ht htg
          have := hq σ.H σ cargs rfl I hr
          rw [← he] at this
          refine upon_call this fun cv w' ⟨r', σ', a1, a2, a3, a4, a5⟩ => ?_
          subst a1
          obtain ⟨rfl, a6⟩ := a5
          exact hn (.opt true r') cv σ' a2 ⟨fun _ => a3, fun h => (by cases h)⟩ a4 (by rw [a6]; exact hK)
        | none =>
          rw [htg] at h
          dsimp only at h
          cases hp : pure1 cop ρ σ.H with
          | none => rw [hp] at h; exact h.elim
          | some cv =>
            obtain ⟨c, v⟩ := cv
            rw [hp] at h
            obtain ⟨hc, hK⟩ := h
            have hc := hc rfl
            rcases target_none h4 htg (.inl ⟨_, _, _, hp⟩) with ⟨c', x, y, rfl⟩ | ⟨hch, htd, hpp⟩
            · obtain ⟨cv, k1, k2⟩ := pick_sound h4 hf hp hc
              exact upon_value (.inl k1) (hn (.opt true v) cv σ I ⟨fun _ => k2, fun h => (by cases h)⟩ (Tr.refl _ _) hK)
            · rw [hpp] at hp
              cases hev : evp cop (val ρ) σ.H with
              | none => rw [hev] at hp; cases hp
              | some q =>
                obtain ⟨c0, v0⟩ := q
                rw [hev] at hp
                cases hp
                have hch : chkPure P o.op cop = true := by
                  rcases hch with h | h
                  · exact h
                  · rw [eff_none h] at hev; cases hev
                obtain ⟨cv, σ', k1, k2, k3, k4, k5⟩ := pure_sound hch htd I hf hc.1 hev hc.2
                exact upon_value (.inl k1) (hn (.opt true v) cv σ' k3 ⟨fun _ => k4, fun h => (by cases h)⟩ k5 (by rw [k2]; exact hK))
end
end Go.Abs
end
