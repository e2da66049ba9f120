/-
  Abstract code against the model's: maps written, rows made. Abstract code against the model's: copy into an array's slice.
  Conditions: those that stand ahead of each theorem; no more.
-/
import Derived.MapKept
import Derived.Laws.Runes
import Derived.Test.YtblnejkfaniljaaGreatDoorT08

section
namespace Go.Abs
open Go

section
variable {P : Program} {σ : St} {ρ : Nat → V} {a : Act} {o : Oper} {K : V → HP → Prop}

theorem plain_wrap {x : V} {X : Value} (hp : x.plain = true) (h : RepV σ x X) : ∃ l, RepC σ x l ∧ Wrap x l X := by
  have := repVs_of_all (σ := σ) (vs := [x]) (cs := [X]) (by simp [hp]) ⟨X, [], rfl, h, rfl⟩
  obtain ⟨c, d, l, h1, h2, h3, _⟩ := this
  cases h1
  exact ⟨l, h2, h3⟩

theorem RepVs.set {x : V} {X : Value} (hp : x.plain = true) (h : RepV σ x X) : ∀ {xs : List V} {cs : List Value} (i : Nat), RepVs σ xs cs → RepVs σ (xs.set i x) (cs.set i X)
  | [], cs, i, hr => by have : cs = [] := hr; subst this; rfl
  | y :: ys, _, 0, ⟨c, d, l, rfl, h1, h2, h3⟩ => by
    obtain ⟨l', g1, g2⟩ := plain_wrap hp h
    exact ⟨X, d, l', rfl, g1, g2, h3⟩
  | y :: ys, _, i + 1, ⟨c, d, l, rfl, h1, h2, h3⟩ => ⟨c, d.set i X, l, rfl, h1, h2, RepVs.set hp h i h3⟩

theorem RepVs.snoc {x : V} {X : Value} (hp : x.plain = true) (h : RepV σ x X) : ∀ {xs : List V} {cs : List Value}, RepVs σ xs cs → RepVs σ (xs ++ [x]) (cs ++ [X])
  | [], cs, hr => by
    have : cs = [] := hr
    subst this
    obtain ⟨l', g1, g2⟩ := plain_wrap hp h
    exact ⟨X, [], l', rfl, g1, g2, rfl⟩
  | y :: ys, _, ⟨c, d, l, rfl, h1, h2, h3⟩ => ⟨c, d ++ [X], l, rfl, h1, h2, RepVs.snoc hp h h3⟩

theorem RepVs.erase : ∀ {xs : List V} {cs : List Value} (i : Nat), RepVs σ xs cs → RepVs σ (xs.eraseIdx i) (cs.eraseIdx i)
  | [], cs, i, hr => by have : cs = [] := hr; subst this; rfl
  | y :: ys, _, 0, ⟨c, d, l, rfl, h1, h2, h3⟩ => h3
  | y :: ys, _, i + 1, ⟨c, d, l, rfl, h1, h2, h3⟩ => ⟨c, d.eraseIdx i, l, rfl, h1, h2, RepVs.erase i h3⟩

theorem beq_bytes (s : List UInt8) : ((⟨s.toArray⟩ : ByteArray) == ⟨s.toArray⟩) = true := by
  show (s.toArray == s.toArray) = true
  simp

mutual
theorem fits_one : ∀ (td : TD) (x : V) (cs : List Value), td.fits x = true → RepC σ x cs → ∀ c ∈ cs, ∀ n, Instr.sameBits (n + 1) c c = true
  | .int k, x, cs, hx, hr, c, hc, n => by
    cases x <;> simp [TD.fits] at hx
    simp only [RepC] at hr; subst hr
    simp at hc; subst hc; simp [Instr.sameBits]
  | .bool, x, cs, hx, hr, c, hc, n => by
    cases x <;> simp [TD.fits] at hx
    simp only [RepC] at hr; subst hr
    simp at hc; subst hc; simp [Instr.sameBits]
  | .str, x, cs, hx, hr, c, hc, n => by
    cases x <;> simp [TD.fits] at hx
    simp only [RepC] at hr; subst hr
    simp at hc; subst hc; simp only [Instr.sameBits]; exact beq_bytes _
  | .arr m e, x, cs, hx, hr, c, hc, n => by
    cases x <;> simp [TD.fits] at hx
    exact fitsAll_one e _ cs hx.2 hr c hc n
  | .struct fs, x, cs, hx, hr, c, hc, n => by
    cases x <;> simp [TD.fits] at hx
    exact fitsL_one fs _ cs hx hr c hc n
theorem fitsAll_one (e : TD) : ∀ (xs : List V) (cs : List Value), TD.fitsAll e xs = true → RepL σ xs cs → ∀ c ∈ cs, ∀ n, Instr.sameBits (n + 1) c c = true
  | [], cs, _, hr, c, hc, n => by have : cs = [] := hr; subst this; simp at hc
  | x :: xs, _, hx, ⟨p, q, rfl, h1, h2⟩, c, hc, n => by
    simp only [TD.fitsAll, Bool.and_eq_true] at hx
    rcases List.mem_append.1 hc with h | h
    · exact fits_one e x p hx.1 h1 c h n
    · exact fitsAll_one e xs q hx.2 h2 c h n
theorem fitsL_one : ∀ (fs : List TD) (xs : List V) (cs : List Value), TD.fitsL fs xs = true → RepL σ xs cs → ∀ c ∈ cs, ∀ n, Instr.sameBits (n + 1) c c = true
  | [], [], cs, _, hr, c, hc, n => by have : cs = [] := hr; subst this; simp at hc
  | [], _ :: _, _, h, _, _, _, _ => by simp [TD.fitsL] at h
  | _ :: _, [], _, h, _, _, _, _ => by simp [TD.fitsL] at h
  | f :: fs, x :: xs, _, hx, ⟨p, q, rfl, h1, h2⟩, c, hc, n => by
    simp only [TD.fitsL, Bool.and_eq_true] at hx
    rcases List.mem_append.1 hc with h | h
    · exact fits_one f x p hx.1 h1 c h n
    · exact fitsL_one fs xs q hx.2 h2 c h n
end

mutual
theorem eq_cells : ∀ (td : TD) (x y : V) (cs ds : List Value), td.fits x = true → td.fits y = true → x.eq y = true → RepC σ x cs → RepC σ y ds → cs = ds
  | .int k, x, y, cs, ds, hx, hy, he, hr, hs => by
    cases x <;> simp [TD.fits] at hx
    cases y <;> simp [TD.fits] at hy
    simp [V.eq] at he
    simp only [RepC] at hr hs; subst hr; subst hs; subst hx; subst hy; subst he; rfl
  | .bool, x, y, cs, ds, hx, hy, he, hr, hs => by
    cases x <;> simp [TD.fits] at hx
    cases y <;> simp [TD.fits] at hy
    simp [V.eq] at he
    simp only [RepC] at hr hs; subst hr; subst hs; subst he; rfl
  | .str, x, y, cs, ds, hx, hy, he, hr, hs => by
    cases x <;> simp [TD.fits] at hx
    cases y <;> simp [TD.fits] at hy
    simp [V.eq] at he
    simp only [RepC] at hr hs; subst hr; subst hs; subst he; rfl
  | .arr m e, x, y, cs, ds, hx, hy, he, hr, hs => by
    cases x <;> simp [TD.fits] at hx
    cases y <;> simp [TD.fits] at hy
    simp only [V.eq] at he
    exact eqAll_cells e _ _ cs ds hx.2 hy.2 he hr hs
  | .struct fs, x, y, cs, ds, hx, hy, he, hr, hs => by
    cases x <;> simp [TD.fits] at hx
    cases y <;> simp [TD.fits] at hy
    simp only [V.eq] at he
    exact eqL_cells fs _ _ cs ds hx hy he hr hs
theorem eqAll_cells (e : TD) : ∀ (xs ys : List V) (cs ds : List Value), TD.fitsAll e xs = true → TD.fitsAll e ys = true → V.eqL xs ys = true → RepL σ xs cs → RepL σ ys ds → cs = ds
  | [], [], cs, ds, _, _, _, hr, hs => by have : cs = [] := hr; subst this; have : ds = [] := hs; subst this; rfl
  | [], _ :: _, _, _, _, _, h, _, _ => by simp [V.eqL] at h
  | _ :: _, [], _, _, _, _, h, _, _ => by simp [V.eqL] at h
  | x :: xs, y :: ys, _, _, hx, hy, he, ⟨p, q, rfl, h1, h2⟩, ⟨p', q', rfl, h3, h4⟩ => by
    simp only [TD.fitsAll, Bool.and_eq_true, V.eqL] at hx hy he
    rw [eq_cells e x y p p' hx.1 hy.1 he.1 h1 h3, eqAll_cells e xs ys q q' hx.2 hy.2 he.2 h2 h4]
theorem eqL_cells : ∀ (fs : List TD) (xs ys : List V) (cs ds : List Value), TD.fitsL fs xs = true → TD.fitsL fs ys = true → V.eqL xs ys = true → RepL σ xs cs → RepL σ ys ds → cs = ds
  | [], [], [], cs, ds, _, _, _, hr, hs => by have : cs = [] := hr; subst this; have : ds = [] := hs; subst this; rfl
  | [], _ :: _, _, _, _, h, _, _, _, _ => by simp [TD.fitsL] at h
  | _ :: _, [], _, _, _, h, _, _, _, _ => by simp [TD.fitsL] at h
  | [], [], _ :: _, _, _, _, h, _, _, _ => by simp [TD.fitsL] at h
  | _ :: _, _ :: _, [], _, _, _, h, _, _, _ => by simp [TD.fitsL] at h
  | f :: fs, x :: xs, y :: ys, _, _, hx, hy, he, ⟨p, q, rfl, h1, h2⟩, ⟨p', q', rfl, h3, h4⟩ => by
    simp only [TD.fitsL, Bool.and_eq_true, V.eqL] at hx hy he
    rw [eq_cells f x y p p' hx.1 hy.1 he.1 h1 h3, eqL_cells fs xs ys q q' hx.2 hy.2 he.2 h2 h4]
end

theorem fits_isPlain : ∀ (td : TD) (x : V), td.fits x = true → x.plain = true := by
  intro td x h
  cases td <;> cases x <;> simp_all [TD.fits, V.plain]

/-- Keys that are one are the same value of the model. -/
theorem key_same {td : TD} {x y : V} {X Y : Value} (hx : td.fits x = true) (hy : td.fits y = true) (he : x.eq y = true) (rx : RepV σ x X) (ry : RepV σ y Y) : X = Y ∧ Instr.sameBits 10000 X X = true := by
  obtain ⟨l, h1, h2⟩ := plain_wrap (fits_isPlain td x hx) rx
  obtain ⟨l', h3, h4⟩ := plain_wrap (fits_isPlain td y hy) ry
  have := eq_cells td x y l l' hx hy he h1 h3
  subst this
  have hone := fits_one td x l hx h1
  have ax := (TD.fits_size td x hx).2
  have ay := (TD.fits_size td y hy).2
  cases hb : td.isAgg with
  | true =>
    rw [hb] at ax ay
    rw [wrap_agg ax] at h2
    rw [wrap_agg ay] at h4
    refine ⟨h2.trans h4.symm, ?_⟩
    subst h2
    simp only [Instr.sameBits, Bool.and_eq_true, List.all_eq_true]
    refine ⟨by simp, fun q hq => ?_⟩
    obtain ⟨i, hi, rfl⟩ := List.getElem_of_mem hq
    simp only [List.getElem_zip]
    simp at hi
    exact hone _ (List.getElem_mem _) _
  | false =>
    rw [hb] at ax ay
    rw [wrap_one ax] at h2
    rw [wrap_one ay, h2] at h4
    cases h4
    exact ⟨rfl, hone X (by simp [h2]) _⟩

theorem findV_hit {k : V} : ∀ {xs : List V} {i j : Nat}, findV k xs i = some j → ∃ x, xs[j - i]? = some x ∧ k.eq x = true
  | [], _, _, h => by simp [findV] at h
  | x :: xs, i, j, h => by
    simp only [findV] at h
    split at h
    · rename_i hx
      cases h
      exact ⟨x, by simp, hx⟩
    · obtain ⟨y, h1, h2⟩ := findV_hit h
      have := findV_ge h
      refine ⟨y, ?_, h2⟩
      have : j - i = (j - (i + 1)) + 1 := by omega
      rw [this]; simpa using h1

/-- A map written. -/
theorem does_map {e : Sem Next} {t : Nat} {ks vs ks' vs' : List V} {es es' : Array MapEntry} {clk clk' : Nat} {v : V} {cv : Value} (I : Inv σ) (ht : σ.H[t]? = some (.map ks vs)) (hb : σ.w.heap[σ.g.b t]? = some (.map es clk))
    (hrun : let w' := { σ.w with heap := σ.w.heap.setIfInBounds (σ.g.b t) (.map es' clk') }; e.run P σ.w = .ok (.value cv) w' ∨ (e.run P σ.w = .ok .skip w' ∧ cv = undef))
    (hv : ∀ σ', RepV σ' v cv) (hk : RepVs σ ks' (es'.toList.map (·.key))) (hv' : RepVs σ vs' (es'.toList.map (·.val))) (hK : K v (σ.H.set t (.map ks' vs'))) : Does P e σ K := by
  have hlt := (Array.getElem?_eq_some_iff.1 hb).1
  have hw : Wr σ { σ.w with heap := σ.w.heap.setIfInBounds (σ.g.b t) (.map es' clk') } t :=
    ⟨rfl, rfl, rfl, by simp, fun b hne => by
      show (σ.w.heap.setIfInBounds _ _)[b]? = _
      rw [Array.getElem?_setIfInBounds, if_neg fun e : σ.g.b t = b => hne e.symm]⟩
  have hsk : sameKind (.map ks vs) (.map ks' vs') := trivial
  have hle := (St.wr_tr I hw ht hsk σ.H.length).le
  refine ⟨v, cv, _, hrun, St.wr_inv I hw ht hsk ⟨es', clk', ?_, RepVs.mono hle _ _ hk, RepVs.mono hle _ _ hv', fun o => noS I ht hsk o⟩, hv _, St.wr_tr I hw ht hsk _, hK⟩
  show (σ.w.heap.setIfInBounds (σ.g.b t) (.map es' clk'))[σ.g.b t]? = _
  simp [hlt]

theorem mapOfT_isSome {t : TypeId} {td : TD} (h : (mapOfT P t td).isSome = true) : ∃ k e, P.underlying t = some (.map k e) ∧ tdChk P k td = true := by
  obtain ⟨e, he⟩ := Option.isSome_iff_exists.1 h
  obtain ⟨k, h1, h2⟩ := mapOfT_spec he
  exact ⟨k, e, h1, h2⟩

theorem run_mapUpdate {t kt e : TypeId} {td : TD} {tt : Nat} {k v : V} {KK VV : Value} {ks vs : List V} (hu : P.underlying t = some (.map kt e)) (htd : tdChk P kt td = true) (hd : td.depth < 10000) (I : Inv σ) (ht : σ.H[tt]? = some (.map ks vs))
    (hk : td.fits k = true) (rk : RepV σ k KK) (hks : ∀ x ∈ ks, td.fits x = true) (hl : ks.length = vs.length) (hv : v.plain = true) (rv : RepV σ v VV) {ee : Sem Next}
    (hrun : ∀ w', (Instr.mapUpdate t (.map (some (σ.g.b tt))) KK VV).run P σ.w = .ok () w' → ee.run P σ.w = .ok .skip w')
    (hK : match findV k ks 0 with | some i => K .junk (σ.H.set tt (.map (ks.set i k) (vs.set i v))) | none => K .junk (σ.H.set tt (.map (ks ++ [k]) (vs ++ [v])))) : Does P ee σ K := by
  obtain ⟨es, clk, b1, b2, b3, b4⟩ := I.blk tt _ ht
  have hck := fun w => run_checkKey_td P td kt k KK false 10000 htd hk rk hd w
  have hfk := fun w => run_findKey htd hd hk rk hks b2 w
  have hll : ks.length = (es.toList.map (·.val)).length := by rw [RepVs.length b2]; simp
  have hle : ks.length = es.size := by rw [hll]; simp
  rw [findE_eq hll] at hfk
  have hkp := fits_isPlain td k hk
  cases hf : findV k ks 0 with
  | none =>
    rw [hf] at hfk hK
    refine does_map I ht b1 (es' := es.push { key := KK, val := VV, born := clk }) (clk' := clk + 1) (v := .junk) (cv := undef) (.inr ⟨hrun _ ?_, rfl⟩) (fun _ => trivial) ?_ ?_ hK
    · simp only [Instr.mapUpdate, Sem.run_bind, run_underlying hu, Result.andThen_ok, run_getObj_map b1, hck, hfk]
      exact MapKept.run_setObj_map _ b1
    · simpa using RepVs.snoc hkp rk b2
    · simpa using RepVs.snoc hv rv b3
  | some i =>
    rw [hf] at hfk hK
    have hi := (findV_ge hf).2
    obtain ⟨x, hx1, hx2⟩ := findV_hit hf
    simp only [Nat.sub_zero] at hx1 hfk
    have hi' : i < es.size := by omega
    obtain ⟨X, g1, g2⟩ := RepVs.get b2 hx1
    have hXe : X = es[i].key := by simpa [hi'] using g1.symm
    have hxf := hks x (List.mem_of_getElem? hx1)
    obtain ⟨e1, e2⟩ := key_same hk hxf hx2 rk g2
    have hval : (es.toList.map (·.val))[i]? = some es[i].val := by simp [hi']
    rw [hval] at hfk
    simp only [Option.map_some] at hfk
    refine does_map I ht b1 (es' := es.modify i fun e => { e with key := KK, val := VV }) (clk' := clk) (v := .junk) (cv := undef) (.inr ⟨hrun _ ?_, rfl⟩) (fun _ => trivial) ?_ ?_ hK
    · have hkk : (Instr.keyThatStays (((es[i]?).map (·.key)).getD KK) KK).run P σ.w = .ok KK σ.w := by
        have : ((es[i]?).map (·.key)).getD KK = KK := by simp [hi', ← hXe, ← e1]
        rw [this]
        simp [Instr.keyThatStays, e2]
      simp only [Instr.mapUpdate, Sem.run_bind, run_underlying hu, Result.andThen_ok, run_getObj_map b1, hck, hfk, hkk]
      exact MapKept.run_setObj_map _ b1
    · have := RepVs.set hkp rk i b2
      refine Eq.mp (congrArg _ ?_) this
      apply List.ext_getElem?
      intro j
      simp only [List.getElem?_set, List.getElem?_map, Array.getElem?_toList, Array.getElem?_modify, List.length_map, Array.length_toList]
      split
      · rename_i e; subst e; simp [hi']
      · rfl
    · have := RepVs.set hv rv i b3
      refine Eq.mp (congrArg _ ?_) this
      apply List.ext_getElem?
      intro j
      simp only [List.getElem?_set, List.getElem?_map, Array.getElem?_toList, Array.getElem?_modify, List.length_map, Array.length_toList]
      split
      · rename_i e; subst e; simp [hi']
      · rfl

theorem eff_mapup {td : TD} {m k v : Opd} (hk : chkEff P o.op (.mapup td m k v) = true) (hd : td.depth < 10000) (I : Inv σ) (hf : RepF σ ρ a) (ht : there ρ [m, k, v] = true) (he : eve (.mapup td m k v) (val ρ) σ.H K) : Does P (execOp a.eval o) σ K := by
  simp only [there_cons] at ht
  have main : ∀ t m' k' v', (o.op = .mapUpdate t m' k' v' ∨ o.op = .insert t m' k' v') → chkOpd m' m = true → chkOpd k' k = true → chkOpd v' v = true → (mapOfT P t td).isSome = true → Does P (execOp a.eval o) σ K := by
    intro t m' k' v' ho h1 h2 h3 h4
    have r1 := opd_rep hf h1 ht.1
    have r2 := opd_rep hf h2 ht.2.1
    have r3 := opd_rep hf h3 ht.2.2.1
    obtain ⟨kt, e, hu, htd⟩ := mapOfT_isSome h4
    simp only [eve] at he
    split at he
    · rename_i tt e1
      rw [e1] at r1
      obtain ⟨_, r1⟩ := repV_map.1 r1
      split at he
      · rename_i ks vs hm
        obtain ⟨c1, c2, c3, c4, c5⟩ := he
        refine run_mapUpdate hu htd hd I hm c1 r2 c2 c3 c4 r3 (fun w' hw' => ?_) c5
        rcases ho with ho | ho <;> simp only [execOp, ho, r1, Sem.run_bind, hw', Result.andThen_ok, Sem.run_pure]
      · exact he.elim
    · exact he.elim
  cases ho : o.op <;> simp only [ho, chkEff] at hk <;> first | (cases hk; done) | skip
  all_goals
    simp only [Bool.and_eq_true] at hk
    obtain ⟨⟨⟨h1, h2⟩, h3⟩, h4⟩ := hk
    first | exact main _ _ _ _ (.inl ho) h1 h2 h3 h4 | exact main _ _ _ _ (.inr ho) h1 h2 h3 h4

theorem run_makeSlice {t e : TypeId} {sz bytes : Nat} {z : V} {n c : Nat} (hu : P.underlying t = some (.slice e)) (hs : szIs P e sz = true) (hb : bytesIs P e bytes = true) (hz : zeroIs P e z = true) (hb0 : bytes ≠ 0)
    (hn : n ≤ c) (hfit : c * bytes ≤ 140737488355328) : ∃ u, constOk z u = true ∧ ∀ w : World, u.cells.size = sz → (Instr.makeSlice t (.int .i64 n) (.int .i64 c)).run P w =
      .ok (.slice (some ⟨w.heap.size, 0, none⟩) n c) { w with heap := w.heap.push (.cells ((Array.range (c * sz)).map (u.cells[· % u.cells.size]!)) e (0, 0)) } := by
  obtain ⟨u, hzu, hrun⟩ := run_zero hz
  refine ⟨u, hzu, fun w hus => ?_⟩
  have hc : c ≤ 140737488355328 := Nat.le_trans (Nat.le_mul_of_pos_right _ (Nat.pos_of_ne_zero hb0)) hfit
  have w1 : IntKind.i64.wrap (n : Int) = n := wrap_small _ (by omega) (by omega)
  have w2 : IntKind.i64.wrap (c : Int) = c := wrap_small _ (by omega) (by omega)
  have hbn : ¬ ((bytes : Int) * (c : Int) > 2 ^ 48) := by
    have : ((bytes : Int) * (c : Int)) = ((c * bytes : Nat) : Int) := by rw [Int.mul_comm]; simp
    omega
  have hinfo : ∃ i, P.info? e = some i ∧ i.bytes = bytes := by
    unfold bytesIs at hb
    split at hb
    · rename_i i hi; exact ⟨i, hi, by simpa using hb⟩
    · cases hb
  obtain ⟨i, hi, hib⟩ := hinfo
  have ha : ∀ (k : IntKind) (n : Int) (w : World), (asInt (.int k n)).run P w = .ok n w := fun _ _ _ => rfl
  have h1 : ¬ ((c : Int) < 0) := by omega
  have h2 : ¬ ((n : Int) < 0) := by omega
  have h3 : ¬ ((n : Int) > c) := by omega
  unfold Instr.makeSlice
  simp only [Sem.run_bind, run_underlying hu, Result.andThen_ok, ha, run_info hi, hib, w1, w2, h1, h2, h3, hbn, decide_false, Bool.or_self, Bool.false_eq_true, if_false, run_askRoom, run_size hs, Int.toNat_natCast]
  by_cases h0 : c * sz = 0
  · simp only [h0, if_true, Sem.run_pure, Result.andThen_ok, newRow, Sem.run_bind]
    have hr0 : ∀ f : Nat → Value, (Array.range 0).map f = #[] := fun f => Array.eq_empty_of_size_eq_zero (by simp)
    rw [hr0, hr0]
    rfl
  · simp [h0, hrun, newRow]

theorem eff_mkslA {sz bytes : Nat} {z : V} {n : Opd} (hk : chkEff P o.op (.mkslA sz bytes z n) = true) (I : Inv σ) (hf : RepF σ ρ a) (ht : there ρ [n] = true) (he : eve (.mkslA sz bytes z n) (val ρ) σ.H K) : Does P (execOp a.eval o) σ K := by
  simp only [there_cons] at ht
  cases ho : o.op <;> simp only [ho, chkEff] at hk <;> first | (cases hk; done) | skip
  rename_i t l c
  simp only [Bool.and_eq_true, bne_iff_ne, ne_eq] at hk
  obtain ⟨⟨⟨⟨⟨k1, k2⟩, k3⟩, k4⟩, k5⟩, k6⟩ := hk
  obtain ⟨e, hu, hs⟩ := sliceOf_spec k3
  have hb : bytesIs P e bytes = true := by simpa [bytesOf, hu] using k4
  have hz : zeroIs P e z = true := by simpa [zeroSl, hu] using k6
  have r1 := opd_rep hf k1 ht.1
  have r2 := opd_rep hf k2 ht.1
  simp only [eve] at he
  split at he
  · rename_i m e1
    obtain ⟨c1, c2, c3, hK⟩ := he
    rw [e1, repV_int] at r1 r2
    obtain ⟨m, rfl⟩ := Int.eq_ofNat_of_zero_le c1
    simp only [Int.toNat_natCast] at hK
    obtain ⟨u, hzu, hrun⟩ := run_makeSlice hu hs hb hz k5 (Nat.le_refl m) (by have := Int.natCast_mul m bytes; omega)
    have hzc := zero_cells hzu σ
    have hus : u.cells.size = sz := by rw [← c3, ← RepC.length _ _ hzc]; simp
    have hrun := hrun σ.w hus
    have hrl : RepL σ (List.replicate m z) ((Array.range (m * sz)).map (u.cells[· % u.cells.size]!)).toList := by
      rw [← hus, zeros_flat]; exact RepL.replicate hzc m
    let cells := (Array.range (m * sz)).map (u.cells[· % u.cells.size]!)
    let w' : World := { σ.w with heap := σ.w.heap.push (.cells cells e (0, 0)) }
    have htr := σ.ext_tr I (w' := w') (fun _ => False) (.cell (.agg (List.replicate m z))) 0 true rfl rfl rfl rfl
    have hg := σ.ext_g_new w' (fun _ => False) (.cell (.agg (List.replicate m z))) 0 true
    have hRC : RepC σ (.agg (List.replicate m z)) cells.toList := hrl
    refine ⟨.arr σ.H.length [] 0 m sz, .slice (some ⟨σ.w.heap.size, 0, none⟩) m m, σ.ext w' (fun _ => False) (.cell (.agg (List.replicate m z))) 0 true, .inl ?_, σ.ext_inv I (w' := w') _ _ _ _ rfl rfl rfl rfl ⟨cells, e, (0, 0), ?_, fun o _ h => by simp at h, RepC.mono htr.le _ _ hRC, ?_⟩, ?_, htr, hK⟩
    · simp only [execOp, ho, r1, r2, Sem.run_bind, hrun, Result.andThen_ok, Sem.run_pure]; rfl
    · rw [hg.1]; exact Array.getElem?_push_size
    · rw [hg.1]; exact noS_new I w' _ 0 true
    · refine repV_arr.2 ⟨(V.agg (List.replicate m z)).shape, 0, V.shapeL (List.replicate m z), m, some ⟨σ.w.heap.size, 0, none⟩, shapeAt_cell (by simp [St.ext]), by rw [V.shape_agg]; rfl, by rw [V.shape_agg]; rfl, ?_, by rw [V.shapeL_length]; simp, Nat.le_refl _, fun _ => by rw [hg.1]; simp, rfl⟩
      intro s hs'
      rw [V.shapeL_eq] at hs'
      obtain ⟨x, hx, rfl⟩ := List.mem_map.1 hs'
      rw [(List.mem_replicate.1 hx).2]; exact c3
  · exact he.elim

theorem eff_mkslR {sz bytes : Nat} {z : V} {n c : Opd} (hk : chkEff P o.op (.mkslR sz bytes z n c) = true) (I : Inv σ) (hf : RepF σ ρ a) (ht : there ρ [n, c] = true) (he : eve (.mkslR sz bytes z n c) (val ρ) σ.H K) : Does P (execOp a.eval o) σ K := by
  simp only [there_cons] at ht
  cases ho : o.op <;> simp only [ho, chkEff] at hk <;> first | (cases hk; done) | skip
  rename_i t l c'
  simp only [Bool.and_eq_true, bne_iff_ne, ne_eq] at hk
  obtain ⟨⟨⟨⟨⟨k1, k2⟩, k3⟩, k4⟩, k5⟩, k6⟩ := hk
  obtain ⟨e, hu, hs⟩ := sliceOf_spec k3
  have hb : bytesIs P e bytes = true := by simpa [bytesOf, hu] using k4
  have hz : zeroIs P e z = true := by simpa [zeroSl, hu] using k6
  have r1 := opd_rep hf k1 ht.1
  have r2 := opd_rep hf k2 ht.2.1
  simp only [eve] at he
  split at he
  · rename_i m l' e1 e2
    obtain ⟨c1, c2, c3, c4, hK⟩ := he
    rw [e1, repV_int] at r1
    rw [e2, repV_int] at r2
    obtain ⟨m, rfl⟩ := Int.eq_ofNat_of_zero_le c1
    obtain ⟨q, rfl⟩ := Int.eq_ofNat_of_zero_le (show 0 ≤ l' by omega)
    simp only [Int.toNat_natCast] at hK
    have hmq : m ≤ q := by exact_mod_cast c2
    obtain ⟨u, hzu, hrun⟩ := run_makeSlice hu hs hb hz k5 hmq (by have := Int.natCast_mul q bytes; omega)
    have hzc := zero_cells hzu σ
    have hus : u.cells.size = sz := by rw [← c4, ← RepC.length _ _ hzc]; simp
    have hrun := hrun σ.w hus
    have hfl : ((Array.range (q * sz)).map (u.cells[· % u.cells.size]!)).toList = (List.replicate q u.cells.toList).flatten := by rw [← hus, zeros_flat]
    let cells := (Array.range (q * sz)).map (u.cells[· % u.cells.size]!)
    let w' : World := { σ.w with heap := σ.w.heap.push (.cells cells e (0, 0)) }
    have htr := σ.ext_tr I (w' := w') (fun o => o < m * sz) (.row m sz) q true rfl rfl rfl rfl
    have hg := σ.ext_g_new w' (fun o => o < m * sz) (.row m sz) q true
    have hcs : cells.size = q * sz := by simp [cells]
    have hbk : (σ.ext w' (fun o => o < m * sz) (.row m sz) q true).w.heap[σ.w.heap.size]? = some (.cells cells e (0, 0)) := Array.getElem?_push_size
    refine ⟨.sl sz (List.replicate m z) (.row σ.H.length), .slice (some ⟨σ.w.heap.size, 0, none⟩) m q, σ.ext w' (fun o => o < m * sz) (.row m sz) q true, .inl ?_, σ.ext_inv I (w' := w') _ _ _ _ rfl rfl rfl rfl ?_, ?_, htr, hK⟩
    · simp only [execOp, ho, r1, r2, Sem.run_bind, hrun, Result.andThen_ok, Sem.run_pure]; rfl
    · intro _
      refine ⟨cells, e, (0, 0), by rw [hg.1]; exact hbk, fun o _ h => by simp at h, by rw [hg.2.1]; exact hcs, by rw [hg.2.1]; exact hmq, fun o => ?_⟩
      rw [hg.1]
      constructor
      · rintro (h | ⟨_, h⟩)
        · have := I.bound _ _ h; omega
        · exact h
      · exact fun h => .inr ⟨rfl, h⟩
    · refine repV_sl.2 ⟨some ⟨σ.w.heap.size, 0, none⟩, q, by simp, by simpa using hmq, ⟨m, by simp [St.ext], by simp, fun _ => ?_⟩, .inr ⟨σ.w.heap.size, 0, rfl, ?_⟩⟩
      · rw [hg.1, hg.2.1, hg.2.2]; exact ⟨rfl, rfl⟩
      · have hrl := RepL.mono htr.le _ _ (RepL.replicate hzc m)
        have hlen : (List.replicate m u.cells.toList).flatten.length = m * sz := by simp [hus]
        refine RepE.mk (cs := (List.replicate m u.cells.toList).flatten) (fun x hx => by rw [(List.mem_replicate.1 hx).2]; exact c4) hrl fun k hk => ⟨.inr ⟨rfl, by omega⟩, ?_⟩
        rw [cell_heap hbk, ← Array.getElem?_toList]
        show cells.toList[0 + k]? = _
        rw [show cells.toList = _ from hfl, Nat.zero_add, ← List.getElem?_eq_getElem hk]
        have : List.replicate q u.cells.toList = List.replicate m u.cells.toList ++ List.replicate (q - m) u.cells.toList := by rw [List.replicate_append_replicate]; congr 1; omega
        rw [this, List.flatten_append, List.getElem?_append_left hk]
  · exact he.elim
end
end Go.Abs
end

section
namespace Go.Abs
open Go

section
variable {P : Program} {σ : St} {ρ : Nat → V} {a : Act} {o : Oper} {K : V → HP → Prop}

/-- The first cells of what is copied. -/
theorem more_first (I : Inv σ) {v : V} {X : Value} {ys : List V} (r : RepV σ v X) (h : moreOf σ.H v = some ys) :
    ∃ news, RepL σ ys news ∧ (∀ y ∈ ys, y.shape.size = moreSize v) ∧ (∀ w, (Builtin.lenOf X).run P w = .ok ys.length w) ∧
      ∀ k, k ≤ ys.length → (Builtin.firstCells (moreSize v) k X).run P σ.w = .ok (news.take (k * moreSize v)).toArray σ.w := by
  unfold moreOf at h
  split at h
  · rename_i s
    cases h
    rw [repV_str] at r
    subst r
    refine ⟨_, bytes_cells s, bytesV_size s, fun w => ?_, fun k hk => ?_⟩
    · simp [Builtin.lenOf, bytesV, ByteArray.size]
    · simp only [Builtin.firstCells, Sem.run_pure, moreSize, Nat.mul_one]
      congr 1
      apply Array.ext'
      simp [List.map_take]
  · rename_i hv
    have hz : moreSize v = slSize v := by cases v <;> first | rfl | (rename_i s; exact (hv s rfl).elim)
    obtain ⟨ad, cap, rfl, h2, h3, h4⟩ := elems_flat I r h
    rw [hz]
    rcases h4 with rfl | ⟨b, o, cs, rfl, h5, h6⟩
    · refine ⟨[], rfl, by simp, fun w => by simp [Builtin.lenOf], fun k hk => ?_⟩
      have : k = 0 := by simpa using hk
      subst this
      cases ad with
      | none => simp [Builtin.firstCells]
      | some ad => simpa using run_firstCells_some (P := P) σ.w (slSize v) 0 ad _ cap [] (by simp) (by simp)
    · refine ⟨cs, h5, h3, fun w => by simp [Builtin.lenOf], fun k hk => ?_⟩
      have hl := RepL.length_const h5 h3
      exact run_firstCells_some σ.w (slSize v) k ⟨b, o, none⟩ _ cap _ (by rw [List.length_take, hl]; exact Nat.min_eq_left (Nat.mul_le_mul_right _ hk)) fun j u hj => by
        rw [Addr.add_none]
        rw [List.getElem?_take] at hj
        split at hj
        · exact h6 _ _ hj
        · cases hj

theorem copy_list {α : Type} (cs c' news : List α) (o p n : Nat) (h1 : o + n ≤ cs.length) (h2 : c' = (((cs.drop o).take n).take p ++ news ++ ((cs.drop o).take n).drop (p + news.length))) (h3 : p + news.length ≤ n) :
    cs.take o ++ c' ++ cs.drop (o + c'.length) = cs.take (o + p) ++ news ++ cs.drop (o + p + news.length) := by
  have hl : c'.length = n := by rw [h2]; simp; omega
  rw [hl, h2]
  apply List.ext_getElem?
  intro j
  simp only [List.append_assoc, List.getElem?_append, List.length_take, List.length_drop, List.getElem?_take, List.getElem?_drop]
  repeat' split
  all_goals first | rfl | omega | (congr 1; omega) | skip

theorem eff_copyA {sz : Nat} {x y : Opd} (hk : (match o.op with
    | .call { callee := .builtin .copy, args, argTypes } => match args.toList, argTypes.toList with
      | [a, b], (t :: _) => chkOpd a x && chkOpd b y && sliceOf P t sz
      | _, _ => false
    | _ => false) = true) (I : Inv σ) (hf : RepF σ ρ a) (ht : there ρ [x, y] = true) (he : eve (.copyA sz x y) (val ρ) σ.H K) : Does P (execOp a.eval o) σ K := by
  simp only [there_cons] at ht
  split at hk <;> first | (cases hk; done) | skip
  rename_i args tys ho
  split at hk <;> first | (cases hk; done) | skip
  rename_i a1 a2 t trest ha hty
  simp only [Bool.and_eq_true] at hk
  obtain ⟨⟨k1, k2⟩, k3⟩ := hk
  have ha' : args = #[a1, a2] := by apply Array.ext'; simpa using ha
  have hty' : tys = (t :: trest).toArray := by apply Array.ext'; simpa using hty
  subst ha'; subst hty'
  obtain ⟨e, hu, hs⟩ := sliceOf_spec k3
  have r1 := opd_rep hf k1 ht.1
  have r2 := opd_rep hf k2 ht.2.1
  simp only [eve] at he
  split at he
  · rename_i tb p off len sz' e1
    rw [e1] at r1
    split at he
    · rename_i v ys hv hm
      split at he
      · rename_i xs hx
        obtain ⟨rfl, hms, hsh, he⟩ := he
        split at he
        · rename_i v' hv'
          obtain ⟨sh, oo, l, cap, ad, g1, g2, g3, g4, g5, g6, g7, g8⟩ := repV_arr.1 r1
          obtain ⟨cs, ee, fr, b1, b2, b3, b4⟩ := I.blk tb _ hv
          rw [shapeAt_cell hv] at g1
          cases g1
          obtain ⟨o', q1, q2, q3, q4⟩ := rep_at b3 hx
          rw [q1] at g3
          cases g3
          rw [g2, V.shape_agg] at q4
          cases q4
          have hsz : ∀ x ∈ xs, x.shape.size = sz' := fun x hx => g4 _ (by rw [V.shapeL_eq]; exact List.mem_map_of_mem hx)
          rw [V.shapeL_length] at g5
          obtain ⟨news, n1, n2, n3, n4⟩ := more_first (P := P) I r2 hm
          rw [hms] at n2 n4
          let k := min ys.length len
          have hk' : k ≤ ys.length := Nat.min_le_left _ _
          have hkl : k ≤ len := Nat.min_le_right _ _
          have hnl : news.length = ys.length * sz' := RepL.length_const n1 n2
          have hxl : (V.agg xs).shape.size = xs.length * sz' := by
            have q2' : RepL σ xs _ := q2
            rw [← RepL.length_const q2' hsz, List.length_take, List.length_drop]; omega
          have hnk : (news.take (k * sz')).length = k * sz' := by rw [List.length_take, hnl]; exact Nat.min_eq_left (Nat.mul_le_mul_right _ hk')
          have e1' : Sh.sizeL (V.shapeL (xs.take off)) = off * sz' := by rw [← V.shapeL_take]; exact Sh.sizeL_const (uniform_shape hsz) (by rw [V.shapeL_length]; omega)
          have e2' : Sh.sizeL (V.shapeL (xs.take (off + k))) = (off + k) * sz' := by rw [← V.shapeL_take]; exact Sh.sizeL_const (uniform_shape hsz) (by rw [V.shapeL_length]; omega)
          have e3' : Sh.sizeL (V.shapeL (ys.take k)) = k * sz' := by rw [← V.shapeL_take]; exact Sh.sizeL_const (uniform_shape n2) (by rw [V.shapeL_length]; exact hk')
          let part := (cs.toList.drop oo).take (V.agg xs).shape.size
          have hpl : part.length = xs.length * sz' := by simp only [part]; rw [List.length_take, List.length_drop, hxl]; omega
          have hoff : (off + k) * sz' ≤ xs.length * sz' := Nat.mul_le_mul_right _ (by omega)
          have hadd : (off + k) * sz' = off * sz' + k * sz' := Nat.add_mul _ _ _
          let c' := part.take (off * sz') ++ news.take (k * sz') ++ part.drop (off * sz' + (news.take (k * sz')).length)
          have hrc : RepC σ (.agg (xs.take off ++ ys.take k ++ xs.drop (off + k))) c' := by
            show RepL σ _ _
            have q2' : RepL σ xs part := q2
            have m1 := RepL.take off q2'
            have m2 := RepL.take k n1
            have m3 := RepL.drop (off + k) q2'
            rw [e1'] at m1
            rw [e3'] at m2
            rw [e2', hadd, ← hnk] at m3
            exact RepL.append (RepL.append m1 m2) m3
          have hshape : (V.agg (xs.take off ++ ys.take k ++ xs.drop (off + k))).shape = (V.agg xs).shape := by
            rw [V.shape_agg, V.shape_agg, V.shapeL_eq, V.shapeL_eq]
            congr 1
            apply List.ext_getElem?
            intro j
            have hj := hsh (j - off)
            simp only [List.map_append, List.map_take, List.map_drop, List.append_assoc, List.getElem?_append, List.length_take, List.length_map, List.getElem?_take, List.getElem?_drop]
            have ho1 : min off xs.length = off := by omega
            have ho2 : min k ys.length = k := by omega
            rw [ho1, ho2]
            by_cases h1 : j < off
            · simp only [h1, if_true]
            · simp only [h1, if_false]
              by_cases h2 : j - off < k
              · simp only [h2, if_true]
                rw [hj h2]; congr 1; omega
              · simp only [h2, if_false]
                congr 1; omega
          obtain ⟨m1, m2⟩ := rep_setAt b3 hx hv' hrc hshape q1
          have hcl : oo + off * sz' + 0 + (news.take (k * sz')).length ≤ cs.size := by
            have : oo + xs.length * sz' ≤ cs.size := by rw [hxl] at q3; simpa using q3
            omega
          have hstore : ∃ w', (match ad with | some a => storeCells a (news.take (k * sz')) | none => pure ()).run P σ.w = .ok () w' ∧ w'.os = σ.w.os ∧ w'.tape = σ.w.tape ∧ w'.output = σ.w.output ∧ w'.heap.size = σ.w.heap.size ∧ (∀ c, c ≠ σ.g.b tb → w'.heap[c]? = σ.w.heap[c]?) ∧
              ∃ cur', w'.heap[σ.g.b tb]? = some (.cells cur' ee fr) ∧ cur'.toList = cs.toList.take (oo + off * sz') ++ news.take (k * sz') ++ cs.toList.drop (oo + off * sz' + (news.take (k * sz')).length) := by
            by_cases h0 : k = 0
            · have hz : news.take (k * sz') = [] := by rw [h0]; simp
              rw [hz]
              refine ⟨σ.w, by cases ad <;> simp [storeCells], rfl, rfl, rfl, rfl, fun _ _ => rfl, cs, b1, by simp⟩
            · have had := g7 (by omega)
              subst had
              obtain ⟨w', p1, p2, p3, p4, p5, p6, cur', p7, p8⟩ := run_storeCells (P := P) (news.take (k * sz')) (oo + off * sz') 0 cs σ.w b1 b2 hcl (fun c hc => RepL.one n1 c (List.mem_of_mem_take hc))
              exact ⟨w', p1, p2, p3, p4, p5, p6, cur', p7, by simpa using p8⟩
          obtain ⟨w', p1, p2, p3, p4, p5, p6, cur', p7, p8⟩ := hstore
          have hlist := copy_list cs.toList c' (news.take (k * sz')) oo (off * sz') (V.agg xs).shape.size q3 rfl (by rw [hnk, hxl]; omega)
          rw [← p8] at hlist
          rw [hlist] at m1
          have hw : Wr σ w' tb := ⟨p2, p3, p4, p5, p6⟩
          have hk2 : sameKind (.cell v) (.cell v') := m2
          have hle := (St.wr_tr I hw hv hk2 σ.H.length).le
          refine ⟨.int .i64 (k : Nat), .int .i64 (k : Nat), σ.wr w' tb (.cell v'), .inl ?_, St.wr_inv I hw hv hk2 ⟨cur', ee, fr, p7, fun o hlt => b2 o ?_, RepC.mono hle _ _ m1, fun o => noS I hv hk2 o⟩, repV_int.2 rfl, St.wr_tr I hw hv hk2 _, he⟩
          · have hrun : (Builtin.copy_ (t :: trest).toArray o.type #[a.eval a1, a.eval a2]).run P σ.w = .ok (.int .i64 (k : Nat)) w' := by
              unfold Builtin.copy_
              rw [g8]
              simp only [List.getElem?_toArray, List.getElem?_cons_zero, List.getElem?_cons_succ, Sem.run_bind, run_underlying hu, Result.andThen_ok, n3, run_size hs]
              rw [show Nat.min ys.length len = k from rfl, n4 k hk']
              cases ad <;> simp_all [goInt]
            simp only [execOp, ho, resolve, invoke, builtin, Sem.run_bind, Sem.run_pure, Result.andThen_ok, List.map_toArray, List.map_cons, List.map_nil, hrun]
            rfl
          · have := congrArg List.length hlist
            have h3 := congrArg List.length p8
            simp only [List.length_append, List.length_take, List.length_drop, Array.length_toList] at h3
            have : (List.take (k * sz') news).length = k * sz' := hnk
            simp only [List.length_take] at this
            omega
        · exact he.elim
      · exact he.elim
    · exact he.elim
  · exact he.elim

theorem sound_s2ap {n : Nat} {x : Opd} {v : V} {c : Prop} (hk : chkPure P o.op (.s2ap n x) = true) (I : Inv σ) (hf : RepF σ ρ a) (ht : there ρ [x] = true)
    (he : evp (.s2ap n x) (val ρ) σ.H = some (c, v)) (hc : c) : Yields P (execOp a.eval o) σ v := by
  rw [there_cons] at ht
  cases ho : o.op <;> simp only [ho, chkPure] at hk <;> first | (cases hk; done) | skip
  rename_i t x'
  simp only [Bool.and_eq_true] at hk
  obtain ⟨h1, h2⟩ := hk
  have r1 := opd_rep hf h1 ht.1
  split at h2
  · rename_i m e hu
    have hm : m = n := by simpa using h2
    subst hm
    simp only [evp] at he
    split at he
    · rename_i sz xs tk e1
      rw [e1] at r1
      cases he
      obtain ⟨ad, cap, g1, g2, g3, g4⟩ := repV_sl.1 r1
      rcases g4 with rfl | ⟨b, oo, rfl, hE⟩
      · simp at hc; omega
      · obtain ⟨q1, cs, q2, q3⟩ := (RepE.take m hE).flat
        refine .same I ?_ (repV_box.2 ⟨b, oo, cs, rfl, q2, q3⟩)
        have : ¬ xs.length < m := by omega
        simp [execOp, ho, g1, Instr.arrayAt, run_underlying hu, this]
    · cases he
  · cases h2
end
end Go.Abs
end
