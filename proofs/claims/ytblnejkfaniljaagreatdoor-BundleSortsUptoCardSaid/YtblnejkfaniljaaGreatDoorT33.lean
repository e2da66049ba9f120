/-
  The order of nodes by the program: contracts. The graph of nodes by the program: contracts.
  Conditions: those that stand ahead of each theorem; no more.
-/
import Derived.Test.YtblnejkfaniljaaGreatDoorT31
import Derived.Test.YtblnejkfaniljaaGreatDoorT32

section
namespace Go.Abs
open Go
set_option maxRecDepth 20000

@[simp] theorem trues_plain' (l : List Bs) : (∀ x ∈ trues l, x.plain = true) ↔ True := ⟨fun _ => trivial, fun _ => trues_plain l⟩
theorem ids_fits' {l : List Bs} (h : ∀ a ∈ l, a.length = 32) : ∀ a ∈ l, TD.fits (.arr 32 (.int .u8)) (idV a) = true := fun a ha => id_fits (h a ha)

theorem f_line_1_1 (done : List Bs) (hd : ∀ a ∈ done, a.length = 32) (a : Bs) (ha : a.length = 32) :
    TCp Pg n_graph_Graph_line_1_1 [idV a, .box (.mapv (done.map idV) (trues done))] (.bool (!done.contains a)) := by
  have s1 := id_shape ha
  have f1 := id_fits ha
  have f2 := ids_fits' hd
  refine TCp.body k_graph_Graph_line_1_1 hP rfl (by simp) rfl ?_
  by_cases h : a ∈ done
  · obtain ⟨i, hi, h1, h2⟩ := findV_yes h
    have h3 := trues_get hi
    simp [c_graph_Graph_line_1_1, r_graph_Graph_line_1_1, s1, f1, h1, h3]
    exact ⟨f2, h⟩
  · have h1 := findV_no h
    simp [c_graph_Graph_line_1_1, r_graph_Graph_line_1_1, s1, f1, h1]
    exact ⟨f2, h⟩

/-- What a node hangs on, rising. -/
def depB (n : Node) : List Bs := dedB (sortB n.2)
def depV (n : Node) : V := .sl 32 ((depB n).map idV) .view
theorem clo_dep (n : Node) : Clo (depV n) := clo_sl clo_id _ _
def depOf (l : List Node) (a : Bs) : List Bs := match l.find? (fun n => decide (a = n.1)) with
  | some n => depB n
  | none => []
def keysV (l : List Node) : List V := l.map fun n => idV n.1
def depsV (l : List Node) : List V := l.map depV
section
variable (d : Nat → Bool) (H : HP) (F : Option (V → V)) (m : Nat) (l : List Node)
@[simp] theorem keys_fzL : fzL d H F (keysV l) = keysV l := (clo_list (fun n : Node => clo_id n.1) l).2.2 d H F
@[simp] theorem keys_underL : V.underL m (keysV l) = true := (clo_list (fun n : Node => clo_id n.1) l).1 m
@[simp] theorem deps_fzL : fzL d H F (depsV l) = depsV l := (clo_list clo_dep l).2.2 d H F
@[simp] theorem deps_underL : V.underL m (depsV l) = true := (clo_list clo_dep l).1 m
@[simp] theorem trues_mapz (n : Nat) (l : List Bs) : (trues l).map (fz d H n) = trues l := by
  conv => rhs; rw [← List.map_id (trues l)]
  exact List.map_congr_left fun x hx => by obtain ⟨a, _, rfl⟩ := List.mem_map.1 hx; exact fz_under _ _ _ _ rfl
@[simp] theorem keys_mapz (n : Nat) : (keysV l).map (fz d H n) = keysV l := by
  conv => rhs; rw [← List.map_id (keysV l)]
  exact List.map_congr_left fun x hx => by obtain ⟨a, _, rfl⟩ := List.mem_map.1 hx; exact (clo_id a.1).fz _ _ _
@[simp] theorem deps_mapz (n : Nat) : (depsV l).map (fz d H n) = depsV l := by
  conv => rhs; rw [← List.map_id (depsV l)]
  exact List.map_congr_left fun x hx => by obtain ⟨a, _, rfl⟩ := List.mem_map.1 hx; exact (clo_dep a).fz _ _ _
@[simp] theorem keys_length : (keysV l).length = l.length := by simp [keysV]
@[simp] theorem deps_length : (depsV l).length = l.length := by simp [depsV]
@[simp] theorem deps_plain : (∀ x ∈ depsV l, x.plain = true) ↔ True := ⟨fun _ => trivial, fun _ x hx => by
  obtain ⟨n, _, rfl⟩ := List.mem_map.1 hx; rfl⟩
end
theorem keys_fits {l : List Node} (h : ∀ n ∈ l, n.1.length = 32) : ∀ x ∈ keysV l, TD.fits (.arr 32 (.int .u8)) x = true := by
  intro x hx
  obtain ⟨n, hn, rfl⟩ := List.mem_map.1 hx
  exact id_fits (h n hn)
theorem depB_ids {n : Node} (h : ∀ a ∈ n.2, a.length = 32) : ∀ a ∈ depB n, a.length = 32 := by
  intro a ha
  exact h a ((sortB_perm n.2).mem_iff.1 (dedB_sub _ ha))
where
  dedB_sub : ∀ (l : List Bs) {a : Bs}, a ∈ dedB l → a ∈ l := by
    intro l a
    unfold dedB
    suffices ∀ (l o : List Bs), a ∈ l.foldl (fun o x => if o.getLast? = some x then o else o ++ [x]) o → a ∈ o ∨ a ∈ l by
      intro h; simpa using this l [] h
    intro l
    induction l with
    | nil => intro o h; exact .inl h
    | cons x l ih =>
      intro o h
      rcases ih _ h with h | h
      · dsimp only at h
        split at h
        · exact .inl h
        · rcases List.mem_append.1 h with h | h
          · exact .inl h
          · exact .inr (by have : a = x := by simpa using h
                           subst this; simp)
      · exact .inr (List.mem_cons_of_mem _ h)
theorem depB_len (n : Node) : (depB n).length ≤ n.2.length := by
  unfold depB
  have := dedB_len _ (sortB n.2) rfl
  rw [sortB_length] at this
  exact this

theorem look_no {l : List Node} {a : Bs} (h : ∀ n ∈ l, ¬ a = n.1) : findV (idV a) (keysV l) 0 = none ∧ depOf l a = [] := by
  refine ⟨findV_none h, ?_⟩
  have : l.find? (fun n => decide (a = n.1)) = none := List.find?_eq_none.2 fun n hn => by simp [h n hn]
  rw [depOf, this]
theorem look_yes {l : List Node} {a : Bs} (h : ∃ n ∈ l, a = n.1) : ∃ i, findV (idV a) (keysV l) 0 = some i ∧ (depsV l)[i]? = some (.sl 32 ((depOf l a).map idV) .view) ∧ ∃ n ∈ l, depOf l a = depB n := by
  obtain ⟨i, hi, h1, h2, h3⟩ := findV_some h
  have h4 : depOf l a = depB l[i] := by rw [depOf, h3]
  exact ⟨i, h1, by rw [h4]; simp [depsV, hi]; rfl, l[i], List.getElem_mem hi, h4⟩

/-- Is a node not laid yet, and all that it hangs on? -/
def readyL (l : List Node) (out : List Bs) (a : Bs) : Bool := !out.contains a && !(depOf l a).any fun d => !out.contains d

theorem f_line_1 (l : List Node) (ids ord : V) (hid : ids.under 0 = true) (hod : ord.under 0 = true) (hv : V.shape ids = .one) (_hw : V.shape ord = .one) (hl : ∀ n ∈ l, Node.Ok n) (done : List Bs) (hd : ∀ a ∈ done, a.length = 32) (a : Bs) (ha : a.length = 32) :
    TCp Pg n_graph_Graph_line_1 [idV a, .box (.mapv (done.map idV) (trues done)), .box (.box (.agg [ids, .mapv (keysV l) (depsV l), ord]))] (.bool (readyL l done a)) := by
  have s1 := id_shape ha
  have f1 := id_fits ha
  have f2 := ids_fits' hd
  have f3 := keys_fits fun n hn => (hl n hn).id
  refine TCp.body k_graph_Graph_line_1 hP rfl (by simp [hid, hod]) rfl ?_
  have hdep : (depOf l a).length < 1100000 ∧ ∀ x ∈ depOf l a, x.length = 32 := by
    by_cases h : ∃ n ∈ l, a = n.1
    · obtain ⟨i, h1, h2, n, hn, h3⟩ := look_yes h
      rw [h3]
      exact ⟨Nat.lt_of_le_of_lt (depB_len n) (hl n hn).deps.len, depB_ids (hl n hn).deps.ids⟩
    · rw [(look_no fun n hn e => h ⟨n, hn, e⟩).2]; simp
  have hcon := f_slices_ContainsFunc_Id (depOf l a) (by omega) (F := n_graph_Graph_line_1_1) (cap := [.box (.mapv (done.map idV) (trues done))]) (by simp) rfl (fun d => !done.contains d) hdep.2 fun x hx => f_line_1_1 done hd x (hdep.2 x hx)
  by_cases h : a ∈ done
  · obtain ⟨i, hi, h1, h2⟩ := findV_yes h
    have h3 := trues_get hi
    simp [c_graph_Graph_line_1, r_graph_Graph_line_1, s1, f1, h1, h3]
    refine ⟨f2, ?_⟩
    refine CallG.of (r := .bool true) (fun q => by cases q) ?_
    simp [readyL, h]
  · have h1 := findV_no h
    by_cases hx : ∃ n ∈ l, a = n.1
    · obtain ⟨i, h5, h6, _⟩ := look_yes hx
      simp [c_graph_Graph_line_1, r_graph_Graph_line_1, s1, f1, h1, h5, h6, hv]
      refine ⟨f2, f3, CallG.of (r := .bool ((depOf l a).any fun d => !done.contains d)) (fun q => ⟨rfl, hcon⟩) ?_⟩
      simp [readyL, h]
    · obtain ⟨h5, h6⟩ := look_no fun n hn e => hx ⟨n, hn, e⟩
      simp [c_graph_Graph_line_1, r_graph_Graph_line_1, s1, f1, h1, h5, hv]
      rw [h6] at hcon
      refine ⟨f2, f3, CallG.of (r := .bool false) (fun q => ⟨rfl, hcon⟩) ?_⟩
      simp [readyL, h, h6]

theorem filter_le {α : Type} {p q : α → Bool} (h : ∀ x, p x = true → q x = true) : ∀ l : List α, (l.filter p).length ≤ (l.filter q).length
  | [] => Nat.le_refl _
  | x :: l => by
    have ih := filter_le h l
    simp only [List.filter_cons]
    cases e : p x with
    | true => simp [h x e]; exact ih
    | false =>
      cases q x with
      | true => simp; omega
      | false => simpa using ih
theorem filter_lt {α : Type} {p q : α → Bool} (h : ∀ x, p x = true → q x = true) {a : α} (hp : p a = false) (hq : q a = true) : ∀ {l : List α}, a ∈ l → (l.filter p).length < (l.filter q).length
  | x :: l, ha => by
    have hle := filter_le h l
    simp only [List.filter_cons]
    rcases List.mem_cons.1 ha with rfl | ha
    · simp [hp, hq]; omega
    · have ih := filter_lt h hp hq ha
      cases e : p x with
      | true => simp [h x e]; exact ih
      | false =>
        cases q x with
        | true => simp; omega
        | false => simpa using ih
/-- What is left to be laid gets less. -/
theorem left_lt {l out : List Bs} {a : Bs} (h : a ∈ l) (hn : ¬ a ∈ out) : (l.filter fun x => !(out ++ [a]).contains x).length < (l.filter fun x => !out.contains x).length :=
  filter_lt (fun x hx => by simp at hx ⊢; exact hx.1) (by simp) (by simp [hn]) h
theorem ready_no {l : List Node} {out : List Bs} {a : Bs} (h : readyL l out a = true) : ¬ a ∈ out := by
  simp only [readyL, Bool.and_eq_true, Bool.not_eq_true'] at h
  simpa using h.1
/-- Ids, as far as they can be laid. -/
def lineB (l : List Node) (ids out : List Bs) : List Bs := match _h : ids.find? (readyL l out) with
  | some a => lineB l ids (out ++ [a])
  | none => out
termination_by (ids.filter fun x => !out.contains x).length
decreasing_by exact left_lt (List.mem_of_find?_eq_some _h) (ready_no (List.find?_some _h))

theorem lineB_some {l : List Node} {ids out : List Bs} {a : Bs} (h : ids.find? (readyL l out) = some a) : lineB l ids out = lineB l ids (out ++ [a]) := by
  rw [lineB]; split
  · rename_i b hb; rw [h] at hb; cases hb; rfl
  · rename_i hb; rw [h] at hb; cases hb
theorem lineB_none {l : List Node} {ids out : List Bs} (h : ids.find? (readyL l out) = none) : lineB l ids out = out := by
  rw [lineB]; split
  · rename_i b hb; rw [h] at hb; cases hb
  · rfl
theorem idxOf_find {p : Bs → Bool} {l : List Bs} : (l.find? p = none ∧ idxOf p l = -1) ∨ ∃ i, ∃ hi : i < l.length, idxOf p l = (i : Int) ∧ l.find? p = some l[i] := by
  cases e : l.findIdx? p with
  | none =>
    refine .inl ⟨List.find?_eq_none.2 fun x hx => by simp [List.findIdx?_eq_none_iff.1 e x hx], by rw [idxOf, e]⟩
  | some i =>
    obtain ⟨h1, h2, h3⟩ := List.findIdx?_eq_some_iff_getElem.1 e
    refine .inr ⟨i, h1, by rw [idxOf, e], ?_⟩
    rw [List.find?_eq_some_iff_getElem]
    exact ⟨h2, i, h1, rfl, fun j hj => by simpa using h3 j hj⟩

@[simp] theorem app_at {α : Type} (L K : List α) (i : Nat) : (L ++ K)[L.length + i]? = K[i]? := by rw [List.getElem?_append_right (by omega)]; congr 1; omega
@[simp] theorem app_at0 {α : Type} (L K : List α) : (L ++ K)[L.length]? = K[0]? := by rw [List.getElem?_append_right (by omega)]; congr 1; omega
@[simp] theorem app_set {α : Type} (L K : List α) (i : Nat) (x : α) : (L ++ K).set (L.length + i) x = L ++ K.set i x := by rw [List.set_append_right _ _ (by omega)]; congr 2; omega
@[simp] theorem app_set0 {α : Type} (L K : List α) (x : α) : (L ++ K).set L.length x = L ++ K.set 0 x := by rw [List.set_append_right _ _ (by omega)]; congr 2; omega

theorem f_graph_line (l : List Node) (hl : ∀ n ∈ l, Node.Ok n) (ids : List Bs) (hi : ids.length < 1100000) (h : ∀ a ∈ ids, a.length = 32) (own : List Bs) (L : HP) :
    TC Pg n_graph_Graph_line [.ptr 1 [], .sl 32 (ids.map idV) .view] (.map (keysV l) (depsV l) :: .cell (.agg [.sl 32 (own.map idV) .view, .map 0, .sl 32 [] .full]) :: L) fun r H' => r = .sl 32 ((lineB l ids []).map idV) .view ∧ H' = .map (keysV l) (depsV l) :: .cell (.agg [.sl 32 (own.map idV) .view, .map 0, .sl 32 [] .full]) :: L := by
  refine TC.under fun hU => TC.bodyS k_graph_Graph_line hP rfl ?_
  generalize hQ : (fun (r : V) (H' : HP) => r = .sl 32 ((lineB l ids []).map idV) .view ∧ H' = .map (keysV l) (depsV l) :: .cell (.agg [.sl 32 (own.map idV) .view, .map 0, .sl 32 [] .full]) :: L) = Q
  simp [c_graph_Graph_line, r_graph_Graph_line]
  refine AW_wloopW (fun out : List Bs => [(1, .sl 32 (ids.map idV) .view), (5, .sl 32 (out.map idV) (.row (L.length + 5))), (6, .ptr (L.length + 4) []), (7, .fn n_graph_Graph_line_1 [] [.ptr (L.length + 4) [], .ptr (L.length + 2) []])])
    (fun out => .map (keysV l) (depsV l) :: .cell (.agg [.sl 32 (own.map idV) .view, .map 0, .sl 32 [] .full]) :: (L ++ [.cell (.ptr 1 []), .map (out.map idV) (trues out), .cell (.map (L.length + 3)), .row out.length 32]))
    (fun out => lineB l ids out = lineB l ids [] ∧ (∀ a ∈ out, a.length = 32) ∧ out.length + (ids.filter fun x => !out.contains x).length ≤ ids.length) (fun out => (ids.filter fun x => !out.contains x).length) [] ⟨rfl, by simp, by simpa using List.length_filter_le _ ids⟩ ((Weak.open 5 32 rfl).trans (Weak.of_eq (by simp [setTM]) (by simp [trues]))) ?_
  rintro out ⟨i1, i2, i3⟩
  have f2 := ids_fits' i2
  have hrd : ∀ x ∈ ids, TCp Pg n_graph_Graph_line_1 ([idV x] ++ [.box (.mapv (out.map idV) (trues out)), .box (.box (.agg [.sl 32 (own.map idV) .view, .mapv (keysV l) (depsV l), .sl 32 [] .full]))]) (.bool (readyL l out x)) := fun x hx => f_line_1 l _ _ (by simp) (by simp) rfl rfl hl out i2 x (h x hx)
  have hidx := f_slices_IndexFunc_Id ids (by omega) (F := n_graph_Graph_line_1) (cap := [.box (.mapv (out.map idV) (trues out)), .box (.box (.agg [.sl 32 (own.map idV) .view, .mapv (keysV l) (depsV l), .sl 32 [] .full]))]) (by simp) rfl (readyL l out) h hrd
  simp
  refine CallB.r (args' := _) hidx rfl ?_ ?_
  · simp
  rcases idxOf_find (p := readyL l out) (l := ids) with ⟨g1, g2⟩ | ⟨i, hi, g1, g2⟩
  · rw [g2]
    simp
    refine ⟨.map (keysV l) (depsV l) :: .cell (.agg [.sl 32 (own.map idV) .view, .map 0, .sl 32 [] .full]) :: L, ⟨_, rfl⟩, rfl, by simpa using hU, ?_⟩
    rw [← hQ, ← i1, lineB_none g1]
    exact ⟨rfl, rfl⟩
  · rw [g1]
    have hneg : ¬ ((i : Int) < 0) := by omega
    have hm : ids[i] ∈ ids := List.getElem_mem hi
    have hno := ready_no (List.find?_some g2)
    have hls := lineB_some g2
    have hlt := left_lt hm hno
    generalize hx : ids[i] = x at *
    have s1 := id_shape (h x hm)
    have f1 := id_fits (h x hm)
    have h1 := findV_no hno
    simp [hneg, hi, hx, s1, f1, h1]
    refine ⟨f2, by omega, out ++ [x], ⟨by rw [← hls]; exact i1, ?_, ?_⟩, by simpa using hlt, Weak.of_eq (by simp) (by simp [trues])⟩
    · intro a ha
      rcases List.mem_append.1 ha with ha | ha
      · exact i2 a ha
      · have : a = x := by simpa using ha
        subst this; exact h _ hm
    · simp at hlt i3 ⊢; omega
end Go.Abs
end

section
namespace Go.Abs
open Go
set_option maxRecDepth 20000

def allDeps (l : List Node) : List Bs := l.flatMap (·.2)
def idsOf (l : List Node) : List Bs := l.map (·.1)
/-- The deps that are no node's. -/
def missB (l : List Node) : List Bs := mergeB (fun x y => x && !y) (dedB (sortB (allDeps l))) (dedB (sortB (idsOf l)))

theorem sorted_ids {l : List Bs} (h : ∀ a ∈ l, a.length = 32) : ∀ a ∈ dedB (sortB l), a.length = 32 := fun a ha => h a ((sortB_perm l).mem_iff.1 (depB_ids.dedB_sub _ ha))
theorem sorted_len (l : List Bs) : (dedB (sortB l)).length ≤ l.length := by
  have := dedB_len _ (sortB l) rfl
  rw [sortB_length] at this
  exact this

@[simp] theorem ids_app_underL (m : Nat) (a b : List Bs) : V.underL m (a.map idV ++ b.map idV) = true := by rw [← List.map_append]; exact ids_underL m _

set_option maxHeartbeats 1000000 in
theorem f_graph_Missing (l : List Node) (hl : l.length < 1100000) (h : ∀ n ∈ l, Node.Ok n) (hd : (allDeps l).length < 900000) (hln : l.length < 90000) : TCp Pg n_graph_Missing [.sl 33 (l.map nodeV) .view] (.sl 32 ((missB l).map idV) .view) := by
  refine TCp.bodyV k_graph_Missing hP rfl (by simp) (by simp) ?_
  simp [c_graph_Missing, r_graph_Missing]
  refine AW_wloopW (fun j : Nat => [(3, .sl 32 ((idsOf (l.take j)).map idV) (.row 0)), (4, .sl 32 ((allDeps (l.take j)).map idV) (.row 1)), (7, .sl 33 (l.map nodeV) .view), (8, .int .i64 l.length), (9, .int .i64 j)]) (fun j => [.row (idsOf (l.take j)).length 32, .row (allDeps (l.take j)).length 32]) (fun j => j ≤ l.length ∧ (allDeps (l.take j)).length ≤ (allDeps l).length) (fun j => l.length - j) 0 ⟨Nat.zero_le _, by simp [allDeps]⟩
    (((Weak.open 3 32 rfl).trans (Weak.open 4 32 rfl)).trans (Weak.of_eq (by simp [setTM, idsOf, allDeps]) (by simp [idsOf, allDeps]))) ?_
  rintro j ⟨hj, hdl⟩
  rcases Nat.lt_or_ge j l.length with h' | h'
  · have hk1 := i64_succ j (by omega)
    obtain ⟨x, hx, hta, hm⟩ := at_k h'
    have s1 := id_shape (h x hm).id
    have s2 := node_shape (h x hm)
    have hs2 : (nodeV x).shape.size = 33 := by rw [s2]; rfl
    have e1 : idsOf (l.take (j + 1)) = idsOf (l.take j) ++ [x.1] := by rw [hta]; simp [idsOf]
    have e2 : allDeps (l.take (j + 1)) = allDeps (l.take j) ++ x.2 := by rw [hta]; simp [allDeps]
    have e3 : (idsOf (l.take j)).length = j := by simp [idsOf]; omega
    have e4 : (allDeps (l.take (j + 1))).length ≤ (allDeps l).length := by
      have : allDeps l = allDeps (l.take (j + 1)) ++ allDeps (l.drop (j + 1)) := by
        unfold allDeps; rw [← List.flatMap_append, List.take_append_drop]
      rw [this]; simp
    have e5 := e4
    rw [e2, List.length_append] at e5
    simp [h', hx, nodeV, s1, hk1, e3]
    refine ⟨by omega, by omega, j + 1, ⟨h', e4⟩, by omega, Weak.tidy [3, 4, 7, 8, 9] 2 (by omega) (by simp) (by simp [underH]) (by simp [e1, e2]) ?_⟩
    rw [e1, e2, List.length_append, List.length_append, e3]
    rfl
  · have : j = l.length := by omega
    subst this
    have q1 : (idsOf l).length = l.length := by simp [idsOf]
    have q2 : ∀ a ∈ idsOf l, a.length = 32 := by
      intro a ha; obtain ⟨n, hn, rfl⟩ := List.mem_map.1 ha; exact (h n hn).id
    have q3 : ∀ a ∈ allDeps l, a.length = 32 := by
      intro a ha; obtain ⟨n, hn, ha⟩ := List.mem_flatMap.1 ha; exact (h n hn).deps.ids a ha
    have q4 := sorted_len (allDeps l)
    have q5 := sorted_len (idsOf l)
    simp
    refine CallB.p (f_id_Sort (allDeps l) (by omega) q3) ?_
    simp
    refine CallB.p (f_id_Sort (idsOf l) (by omega) q2) ?_
    simp
    refine CallB.p (f_id_Minus (dedB (sortB (allDeps l))) (dedB (sortB (idsOf l))) (by omega) (sorted_ids q3) (sorted_ids q2)) ?_
    simp [missB]

/-- What the program's graph is. -/
def graphV (l : List Node) : V := .box (.agg [.sl 32 ((dedB (sortB (idsOf l))).map idV) .view, .mapv (keysV l) (depsV l), .sl 32 ((lineB l (dedB (sortB (idsOf l))) []).map idV) .view])
def newErr (l : List Node) : Int := if ¬ (idsOf l).Nodup then 7 else if 0 < (missB l).length then 11 else if (lineB l (dedB (sortB (idsOf l))) []).length < (dedB (sortB (idsOf l))).length then 17 else 0

set_option maxHeartbeats 2000000 in
theorem f_graph_New (l : List Node) (h : ∀ n ∈ l, Node.Ok n) (hd : (allDeps l).length < 900000) (hln : l.length < 90000) : TCp Pg n_graph_New [.sl 33 (l.map nodeV) .view] (.tup [if newErr l = 0 then graphV l else .nilp, .int .i64 (newErr l)]) := by
  refine TCp.bodyT k_graph_New hP rfl (by simp) ?_ ?_
  · simp [V.under, V.underL]
    split
    · simp [graphV]
    · rfl
  generalize hR : V.tup [if newErr l = 0 then graphV l else .nilp, .int .i64 (newErr l)] = R
  simp [c_graph_New, r_graph_New]
  refine AW_wloopW (fun j : Nat => [(0, .sl 33 (l.map nodeV) .view), (4, .ptr 1 []), (12, .sl 33 (l.map nodeV) .view), (13, .int .i64 l.length), (14, .int .i64 j)])
    (fun j => [.map (keysV (l.take j)) (depsV (l.take j)), .cell (.agg [.sl 32 ((idsOf (l.take j)).map idV) (.row 2), .map 0, .sl 32 [] .full]), .row j 32]) (fun j => j ≤ l.length ∧ (idsOf (l.take j)).Nodup) (fun j => l.length - j) 0 ⟨Nat.zero_le _, by simp [idsOf]⟩
    ((Weak.openAt 1 [0] 32 (v' := .agg [.sl 32 [] (.row 2), .map 0, .sl 32 [] .full]) rfl rfl rfl).trans (Weak.of_eq (by simp) (by simp [keysV, depsV, idsOf]))) ?_
  rintro j ⟨hj, hnd⟩
  rcases Nat.lt_or_ge j l.length with h' | h'
  · have hk1 := i64_succ j (by omega)
    obtain ⟨x, hx, hta, hm⟩ := at_k h'
    have s1 := id_shape (h x hm).id
    have f1 := id_fits (h x hm).id
    have f2 := keys_fits (l := l.take j) fun n hn => (h n (List.mem_of_mem_take hn)).id
    have s2 := node_shape (h x hm)
    have hs2 : (nodeV x).shape.size = 33 := by rw [s2]; rfl
    have e1 : idsOf (l.take (j + 1)) = idsOf (l.take j) ++ [x.1] := by rw [hta]; simp [idsOf]
    have e3 : (idsOf (l.take j)).length = j := by simp [idsOf]; omega
    have hlx := (h x hm).deps.len
    by_cases hin : x.1 ∈ idsOf (l.take j)
    · obtain ⟨i, h5, h6, _⟩ := look_yes (l := l.take j) (a := x.1) (by obtain ⟨n, hn, e⟩ := List.mem_map.1 hin; exact ⟨n, hn, e.symm⟩)
      have hdup : ¬ (idsOf l).Nodup := by
        intro hn
        have h8 : (idsOf (l.take (j + 1))).Nodup := by
          have : idsOf (l.take (j + 1)) = (idsOf l).take (j + 1) := by simp [idsOf]
          rw [this]; exact hn.sublist (List.take_sublist _ _)
        rw [e1, List.nodup_append] at h8
        exact h8.2.2 _ hin _ (by simp) rfl
      have he : newErr l = 7 := by unfold newErr; rw [if_pos hdup]
      simp [h', hx, nodeV, s1, f1, h5, h6]
      refine ⟨f2, ?_⟩
      rw [← hR, he]
      simp
    · obtain ⟨h5, h6⟩ := look_no (l := l.take j) (a := x.1) fun n hn e => hin (List.mem_map.2 ⟨n, hn, e.symm⟩)
      have h8 : (idsOf (l.take (j + 1))).Nodup := by
        rw [e1, List.nodup_append]
        exact ⟨hnd, by simp, fun a ha b hb e => hin (by simp at hb; rw [← hb, ← e]; exact ha)⟩
      have e4 : keysV (l.take (j + 1)) = keysV (l.take j) ++ [idV x.1] := by rw [hta]; simp [keysV]
      have e5 : depsV (l.take (j + 1)) = depsV (l.take j) ++ [depV x] := by rw [hta]; simp [depsV]
      simp [h', hx, nodeV, s1, f1, h5]
      refine ⟨f2, CallQ.of (f_id_Sort x.2 hlx (h x hm).deps.ids) ?_⟩
      simp [s1, f1, h5, hk1, e3]
      refine ⟨f2, ?_⟩
      exact ⟨by omega, j + 1, ⟨h', h8⟩, by omega, Weak.tidy [0, 4, 12, 13, 14] 3 (by omega) (by simp) (by simp [underH]) (by simp) (by simp [e1, e4, e5, depV, depB])⟩
  · have : j = l.length := by omega
    subst this
    rw [List.take_length] at hnd
    have q1 : (idsOf l).length = l.length := by simp [idsOf]
    have q2 : ∀ a ∈ idsOf l, a.length = 32 := by
      intro a ha; obtain ⟨n, hn, rfl⟩ := List.mem_map.1 ha; exact (h n hn).id
    have q5 := sorted_len (idsOf l)
    have q6 := sorted_ids q2
    simp
    refine CallB.p (f_graph_Missing l (by omega) h hd hln) ?_
    simp
    refine ⟨fun hm => ?_, fun hm => ?_⟩
    · have he : newErr l = 11 := by unfold newErr; rw [if_neg (by simpa using hnd), if_pos hm]
      rw [← hR, he]; simp
    · refine CallB.p (f_id_Sort (idsOf l) (by omega) q2) ?_
      simp
      refine CallB.w (f_graph_line l h (dedB (sortB (idsOf l))) (by omega) q6 (dedB (sortB (idsOf l))) [.row l.length 32]) ?_
      rintro _ _ ⟨rfl, rfl⟩
      simp
      have hn : newErr l = if (lineB l (dedB (sortB (idsOf l))) []).length < (dedB (sortB (idsOf l))).length then 17 else 0 := by
        unfold newErr; rw [if_neg (by simpa using hnd), hm]; rfl
      refine ⟨fun hlt => ?_, fun hlt => ?_⟩
      · rw [if_pos hlt] at hn
        rw [← hR, hn]; simp
      · rw [if_neg (by omega)] at hn
        rw [← hR, hn]; simp [graphV]

theorem f_graph_Order (l : List Node) (_h : ∀ n ∈ l, Node.Ok n) (hl : (lineB l (dedB (sortB (idsOf l))) []).length < 1100000) : TCp Pg n_graph_Graph_Order [graphV l] (.sl 32 ((lineB l (dedB (sortB (idsOf l))) []).map idV) .view) := by
  refine TCp.bodyV k_graph_Graph_Order hP rfl (by simp [graphV]) (by simp) ?_
  simp [c_graph_Graph_Order, r_graph_Graph_Order, graphV]
  refine CallB.p (f_slices_Clone_Id _ (by omega)) ?_
  simp
end Go.Abs
end
