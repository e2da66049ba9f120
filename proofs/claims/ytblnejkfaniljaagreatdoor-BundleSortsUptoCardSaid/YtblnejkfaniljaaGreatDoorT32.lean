/-
  Entries and nodes of the document: contracts. A rising row with one more: contract. The document's order of nodes: contract. The document's patches in order: contract.
  Conditions: those that stand ahead of each theorem; no more.
-/
import Derived.Test.YtblnejkfaniljaaGreatDoorT15
import Derived.Test.YtblnejkfaniljaaGreatDoorT30

section
namespace Go.Abs
open Go
set_option maxRecDepth 20000

abbrev Entry := Bs × Patch
abbrev Node := Bs × List Bs
def entryV (e : Entry) : V := .agg [idV e.1, patchV e.2]
def nodeV (n : Node) : V := .agg [idV n.1, .sl 32 (n.2.map idV) .view]
theorem clo_entry (e : Entry) : Clo (entryV e) := clo_agg fun x hx => by
  simp only [List.mem_cons, List.not_mem_nil, or_false] at hx
  rcases hx with rfl | rfl
  · exact clo_id _
  · exact clo_patch _
theorem clo_node (e : Node) : Clo (nodeV e) := clo_agg fun x hx => by
  simp only [List.mem_cons, List.not_mem_nil, or_false] at hx
  rcases hx with rfl | rfl
  · exact clo_id _
  · exact clo_sl clo_id _ _

section
variable (d : Nat → Bool) (H : HP) (F : Option (V → V)) (m : Nat)
@[simp high] theorem entry_un (a : Entry) : (entryV a).un = (true, entryV a) := (clo_entry a).un
@[simp high] theorem entry_plain (a : Entry) : (entryV a).plain = true := rfl
@[simp] theorem entry_isAgg (a : Entry) : isAggV (entryV a) = true := rfl
@[simp] theorem entry_vw (a : Entry) : (entryV a).vw = entryV a := (clo_entry a).vw
@[simp] theorem entry_under (a : Entry) : (entryV a).under m = true := (clo_entry a).under m
@[simp] theorem entry_fzW (a : Entry) : fzW d H F (entryV a) = entryV a := (clo_entry a).fzW d H F
@[simp] theorem entry_comp : fzW d H F ∘ entryV = entryV := funext fun a => (clo_entry a).fzW d H F
@[simp] theorem entry_compz (n : Nat) : fz d H n ∘ entryV = entryV := funext fun a => (clo_entry a).fz d H n
@[simp] theorem entrys_fzL (l : List (Entry)) : fzL d H F (l.map entryV) = l.map entryV := (clo_list clo_entry l).2.2 d H F
@[simp] theorem entrys_vwL (l : List (Entry)) : V.vwL (l.map entryV) = l.map entryV := (clo_list clo_entry l).2.1
@[simp] theorem entrys_underL (l : List (Entry)) : V.underL m (l.map entryV) = true := (clo_list clo_entry l).1 m
end

section
variable (d : Nat → Bool) (H : HP) (F : Option (V → V)) (m : Nat)
@[simp high] theorem node_un (a : Node) : (nodeV a).un = (true, nodeV a) := (clo_node a).un
@[simp high] theorem node_plain (a : Node) : (nodeV a).plain = true := rfl
@[simp] theorem node_isAgg (a : Node) : isAggV (nodeV a) = true := rfl
@[simp] theorem node_vw (a : Node) : (nodeV a).vw = nodeV a := (clo_node a).vw
@[simp] theorem node_under (a : Node) : (nodeV a).under m = true := (clo_node a).under m
@[simp] theorem node_fzW (a : Node) : fzW d H F (nodeV a) = nodeV a := (clo_node a).fzW d H F
@[simp] theorem node_comp : fzW d H F ∘ nodeV = nodeV := funext fun a => (clo_node a).fzW d H F
@[simp] theorem node_compz (n : Nat) : fz d H n ∘ nodeV = nodeV := funext fun a => (clo_node a).fz d H n
@[simp] theorem nodes_fzL (l : List (Node)) : fzL d H F (l.map nodeV) = l.map nodeV := (clo_list clo_node l).2.2 d H F
@[simp] theorem nodes_vwL (l : List (Node)) : V.vwL (l.map nodeV) = l.map nodeV := (clo_list clo_node l).2.1
@[simp] theorem nodes_underL (l : List (Node)) : V.underL m (l.map nodeV) = true := (clo_list clo_node l).1 m
end

structure Entry.Ok (e : Entry) : Prop where
  id : e.1.length = 32
  patch : e.2.Ok
structure Node.Ok (n : Node) : Prop where
  id : n.1.length = 32
  deps : IdsOk n.2

theorem entry_shape {e : Entry} (h : Entry.Ok e) : (entryV e).shape = .agg [.agg (List.replicate 32 .one), .agg [.one, .agg (List.replicate 32 .one), .one, .one, .agg [.one, .one, .one, .one]]] := by
  have h1 := id_shape h.id
  have h2 := patch_shape h.patch.key
  simp only [entryV, V.shape, V.shapeL, h1, h2]
theorem node_shape {n : Node} (h : Node.Ok n) : (nodeV n).shape = .agg [.agg (List.replicate 32 .one), .one] := by
  have h1 := id_shape h.id
  simp only [nodeV, V.shape, V.shapeL, h1]

/-- The first patch without bytes. -/
def namedErr : List Patch → Int
  | [] => 0
  | p :: l => if bytesErr p = 0 then namedErr l else bytesErr p
def named (l : List Patch) : List Entry := l.map fun p => (patchId p, p)

theorem namedErr_ok {l : List Patch} (h : ∀ p ∈ l, bytesErr p = 0) : namedErr l = 0 := by
  induction l with
  | nil => rfl
  | cons p l ih => rw [namedErr, if_pos (h p (by simp)), ih fun q hq => h q (by simp [hq])]
theorem namedErr_bad : ∀ {l : List Patch} {j : Nat} (hj : j < l.length), (∀ i, (h : i < l.length) → i < j → bytesErr l[i] = 0) → ¬ bytesErr l[j] = 0 → namedErr l = bytesErr l[j]
  | p :: l, 0, _, _, hb => by
    have hb : ¬ bytesErr p = 0 := hb
    show (if bytesErr p = 0 then namedErr l else bytesErr p) = bytesErr p
    rw [if_neg hb]
  | p :: l, j + 1, hj, h, hb => by
    have h0 : bytesErr p = 0 := h 0 (by simp) (by omega)
    show (if bytesErr p = 0 then namedErr l else bytesErr p) = _
    rw [if_pos h0]
    exact namedErr_bad (by simpa using hj) (fun i hi hlt => h (i + 1) (by simpa using hi) (by omega)) hb

set_option maxHeartbeats 2000000 in
theorem f_ref18_Named (l : List Patch) (hl : l.length < 1000) (h : ∀ p ∈ l, p.Ok) (hb : ∀ p ∈ l, (bytesB p).length < 100000000) :
    TCp Pg n_ref18_Named [.sl 39 (l.map patchV) .view] (.tup [.sl 71 ((if namedErr l = 0 then named l else []).map entryV) .view, .int .i64 (namedErr l)]) := by
  refine TCp.bodyT k_ref18_Named hP rfl (by simp) (by simp [V.under, V.underL]) ?_
  generalize hR : (V.tup [.sl 71 ((if namedErr l = 0 then named l else []).map entryV) .view, .int .i64 (namedErr l)]) = R
  simp [c_ref18_Named, r_ref18_Named]
  refine AW_wloop (fun j : Nat => [(0, .sl 39 (l.map patchV) .view), (4, .sl 71 ((named (l.take j)).map entryV) (.row 0)), (5, .int .i64 j)]) (fun j => [.row j 71]) (fun j => j ≤ l.length ∧ ∀ i, (q : i < l.length) → i < j → bytesErr l[i] = 0) (fun j => l.length - j) 0 ⟨Nat.zero_le _, fun i _ q => by omega⟩ (Weak.open 4 71 rfl) ?_
  rintro j ⟨hj, hno⟩
  rcases Nat.lt_or_ge j l.length with h' | h'
  · have hk2 := i64_succ j (by omega)
    have hm : l[j] ∈ l := List.getElem_mem h'
    have hbad := namedErr_bad h' hno
    have hta := take_snoc l j h'
    generalize hx : l[j] = x at hm hbad hta
    have s2 := patch_shape (h x hm).key
    have hs2 : (patchV x).shape.size = 39 := by rw [s2]; rfl
    simp [h', hx, s2]
    refine CallB.p (f_ref15_Right x (h x hm)) ?_
    by_cases e : patchRight x = 0
    · have s1 := id_shape (h x hm).key
      simp [e, h', hx, patchV, s1, sig_shape]
      refine CallB.p (f_ref15_Written x.sign) ?_
      cases hw : written x.sign with
      | false =>
        have he : bytesErr x = 3 := by simp [bytesErr, e, hw]
        rw [he] at hbad
        simp
        rw [← hR, hbad (by decide)]
        simp
      | true =>
        have he : bytesErr x = 0 := by simp [bytesErr, e, hw]
        have h32 : (patchId x).length = 32 := sha_length _
        have s3 := id_shape h32
        simp [h', hx, hs2]
        refine CallQ.of (f_ref15_Id x (h x hm) he (hb x hm)) ?_
        have hnt : named (l.take (j + 1)) = named (l.take j) ++ [(patchId x, x)] := by rw [hta]; simp [named]
        have hnl : (named (l.take j)).length = j := by simp [named]; omega
        simp [h', hx, s2, s3, hk2, hnl]
        refine ⟨by omega, j + 1, ⟨⟨h', fun i hi hlt => ?_⟩, by omega, ⟨?_, by omega⟩, rfl⟩⟩
        · rcases Nat.lt_or_ge i j with q | q
          · exact hno i hi q
          · have : i = j := by omega
            subst this
            rw [hx]; exact he
        · rw [hnt]; simp [entryV]
    · have he : bytesErr x = patchRight x := by simp [bytesErr, e]
      rw [he] at hbad
      simp [e]
      rw [← hR, hbad e]
      simp [e]
  · have : j = l.length := by omega
    subst this
    have h0 : namedErr l = 0 := namedErr_ok fun p hm => by
      obtain ⟨i, hi, rfl⟩ := List.mem_iff_getElem.1 hm
      exact hno i hi hi
    simp [← hR, h0]
end Go.Abs
end

section
namespace Go.Abs
open Go
set_option maxRecDepth 20000

def insB (a : Bs) : List Bs → List Bs
  | [] => [a]
  | x :: l => if ltB a x = true then a :: x :: l else x :: insB a l
def putsB (l : List Bs) (a : Bs) : List Bs := if l.contains a = true then l else insB a l

theorem ins_none {a : Bs} : ∀ {l : List Bs}, l.any (ltB a) = false → insB a l = l ++ [a]
  | [], _ => rfl
  | x :: l, h => by
    simp only [List.any_cons, Bool.or_eq_false_iff] at h
    rw [insB, if_neg (by rw [h.1]; simp), ins_none h.2]
    rfl
theorem ins_snoc {a : Bs} : ∀ {l : List Bs} (x : Bs), l.any (ltB a) = true → insB a (l ++ [x]) = insB a l ++ [x]
  | [], _, h => by simp at h
  | y :: l, x, h => by
    by_cases e : ltB a y = true
    · show (if ltB a y = true then _ else _) = (if ltB a y = true then _ else _) ++ [x]
      rw [if_pos e, if_pos e]; rfl
    · have h2 : l.any (ltB a) = true := by simpa [e] using h
      show (if ltB a y = true then _ else _) = (if ltB a y = true then _ else _) ++ [x]
      rw [if_neg e, if_neg e]
      exact congrArg (y :: ·) (ins_snoc x h2)
theorem ins_new {a : Bs} : ∀ {l : List Bs} {x : Bs}, l.any (ltB a) = false → ltB a x = true → insB a (l ++ [x]) = l ++ [a, x]
  | [], x, _, h => by simp [insB, h]
  | y :: l, x, h, hx => by
    simp only [List.any_cons, Bool.or_eq_false_iff] at h
    show (if ltB a y = true then _ else _) = _
    rw [if_neg (by rw [h.1]; simp)]
    exact congrArg (y :: ·) (ins_new h.2 hx)
theorem ins_length (a : Bs) : ∀ l : List Bs, (insB a l).length = l.length + 1
  | [] => rfl
  | x :: l => by
    rw [insB]
    split
    · rfl
    · simp [ins_length a l]
theorem ins_mem (a : Bs) : ∀ (l : List Bs) (x : Bs), x ∈ insB a l ↔ x = a ∨ x ∈ l
  | [], x => by simp [insB]
  | y :: l, x => by
    rw [insB]
    split
    · simp
    · simp only [List.mem_cons, ins_mem a l x]
      constructor
      · rintro (h | h | h)
        · exact .inr (.inl h)
        · exact .inl h
        · exact .inr (.inr h)
      · rintro (h | h | h)
        · exact .inr (.inl h)
        · exact .inl h
        · exact .inr (.inr h)

/-- What has been laid when k have been gone through. -/
def laid (a : Bs) (l : List Bs) : List Bs := if l.any (ltB a) = true then insB a l else l
theorem laid_length (a : Bs) (l : List Bs) : (laid a l).length ≤ l.length + 1 := by
  unfold laid; split
  · rw [ins_length]; exact Nat.le_refl _
  · omega

theorem f_ref04_Put (l : List Bs) (hl : l.length < 100000) (h : ∀ a ∈ l, a.length = 32) (a : Bs) (ha : a.length = 32) : TCp Pg n_ref04_Put [.sl 32 (l.map idV) .view, idV a] (.sl 32 ((putsB l a).map idV) .view) := by
  have s1 := id_shape ha
  have hs1 : (idV a).shape.size = 32 := by rw [s1]; rfl
  refine TCp.bodyV k_ref04_Put hP rfl (by simp) (by simp) ?_
  simp [c_ref04_Put, r_ref04_Put, s1]
  refine CallB.p (f_ref04_Has l (by omega) h a ha) ?_
  cases hc : l.contains a with
  | true =>
    have : putsB l a = l := if_pos hc
    simp [this]
  | false =>
    have hput : putsB l a = insB a l := by unfold putsB; rw [if_neg (by rw [hc]; simp)]
    rw [hput]
    simp
    refine AW_wloop (fun j : Nat => [(0, .sl 32 (l.map idV) .view), (3, .ptr 0 []), (5, .sl 32 ((laid a (l.take j)).map idV) (.row 1)), (6, .bool ((l.take j).any (ltB a))), (7, .int .i64 j)]) (fun j => [.cell (idV a), .row (laid a (l.take j)).length 32]) (fun j => j ≤ l.length) (fun j => l.length - j) 0 (Nat.zero_le _) (Weak.open 5 32 rfl) ?_
    intro j hj
    rcases Nat.lt_or_ge j l.length with h' | h'
    · have hk2 := i64_succ j (by omega)
      obtain ⟨x, hx, hta, hm⟩ := at_k h'
      have s2 := id_shape (h x hm)
      have hs2 : (idV x).shape.size = 32 := by rw [s2]; rfl
      have hll := laid_length a (l.take j)
      have hlt : (l.take j).length ≤ j := by rw [List.length_take]; omega
      rw [List.length_take] at hll
      have hany : (l.take (j + 1)).any (ltB a) = ((l.take j).any (ltB a) || ltB a x) := by rw [hta]; simp
      have hlaid : laid a (l.take (j + 1)) = if (l.take j).any (ltB a) = true then laid a (l.take j) ++ [x] else if ltB a x = true then laid a (l.take j) ++ [a, x] else laid a (l.take j) ++ [x] := by
        unfold laid
        rw [hany, hta]
        cases e1 : (l.take j).any (ltB a) with
        | true => simp [ins_snoc x e1]
        | false =>
          cases e2 : ltB a x with
          | true => simp [ins_new e1 e2]
          | false => simp
      generalize hT : laid a (l.take j) = T at *
      generalize (l.take j).any (ltB a) = d at *
      simp [h', hx, s2, s1]
      refine CallG.of (r := .bool (ltB a x)) (fun q => ⟨q, f_ref04_Less a x ha (h x hm)⟩) ?_
      generalize ltB a x = c at *
      cases d <;> cases c <;> simp [h', hx, s2, s1, hk2]
      all_goals simp only [Bool.or_false, Bool.or_true, Bool.false_eq_true, if_true, if_false] at hany hlaid
      · exact ⟨by omega, j + 1, h', by omega, ⟨by rw [hlaid]; simp, by simpa using hany, by omega⟩, by rw [hlaid]; simp⟩
      · exact ⟨by omega, by omega, j + 1, h', by omega, ⟨by rw [hlaid]; simp, by simpa using hany, by omega⟩, by rw [hlaid]; simp⟩
      · exact ⟨by omega, j + 1, h', by omega, ⟨by rw [hlaid]; simp, by simpa using hany, by omega⟩, by rw [hlaid]; simp⟩
      · exact ⟨by omega, j + 1, h', by omega, ⟨by rw [hlaid]; simp, by simpa using hany, by omega⟩, by rw [hlaid]; simp⟩
    · have : j = l.length := by omega
      subst this
      have hfin : insB a l = if l.any (ltB a) = true then laid a l else laid a l ++ [a] := by
        unfold laid
        cases e : l.any (ltB a) with
        | true => simp
        | false => simp [ins_none e]
      have hll := laid_length a l
      rw [List.take_length]
      rw [hfin]
      cases e : l.any (ltB a) with
      | true => simp
      | false =>
        have he : (laid a l).map idV ++ [idV a] = (laid a l ++ [a]).map idV := by simp
        simp [s1]
        rw [he]
        exact ⟨by omega, by rw [ids_fzL], by rw [ids_fzL]; exact ids_underL _ _⟩

/-- The ids of nodes, rising. -/
def idsB (l : List Node) : List Bs := l.foldl (fun o n => putsB o n.1) []
theorem puts_length (l : List Bs) (a : Bs) : (putsB l a).length ≤ l.length + 1 := by
  unfold putsB; split
  · omega
  · rw [ins_length]; exact Nat.le_refl _
theorem puts_ids {l : List Bs} {a : Bs} (h : ∀ x ∈ l, x.length = 32) (ha : a.length = 32) : ∀ x ∈ putsB l a, x.length = 32 := by
  unfold putsB; split
  · exact h
  · intro x hx
    rcases (ins_mem a l x).1 hx with rfl | hx
    · exact ha
    · exact h x hx
theorem idsB_snoc (l : List Node) (n : Node) : idsB (l ++ [n]) = putsB (idsB l) n.1 := by simp [idsB]
theorem foldIds_ok : ∀ (l : List Node) (o : List Bs), (∀ n ∈ l, n.1.length = 32) → (∀ x ∈ o, x.length = 32) → (l.foldl (fun o n => putsB o n.1) o).length ≤ o.length + l.length ∧ ∀ x ∈ l.foldl (fun o n => putsB o n.1) o, x.length = 32
  | [], o, _, h => ⟨Nat.le_refl _, h⟩
  | n :: l, o, h, ho => by
    obtain ⟨h1, h2⟩ := foldIds_ok l (putsB o n.1) (fun m hm => h m (by simp [hm])) (puts_ids ho (h n (by simp)))
    have := puts_length o n.1
    simp only [List.foldl_cons, List.length_cons]
    exact ⟨by omega, h2⟩
theorem idsB_ok (l : List Node) (h : ∀ n ∈ l, n.1.length = 32) : (idsB l).length ≤ l.length ∧ ∀ x ∈ idsB l, x.length = 32 := by
  have := foldIds_ok l [] h (by simp)
  refine ⟨?_, this.2⟩
  have h1 := this.1
  rw [List.length_nil, Nat.zero_add] at h1
  exact h1

theorem f_ref17_Ids (l : List Node) (hl : l.length < 1000) (h : ∀ n ∈ l, Node.Ok n) : TCp Pg n_ref17_Ids [.sl 33 (l.map nodeV) .view] (.sl 32 ((idsB l).map idV) .view) := by
  refine TCp.bodyV k_ref17_Ids hP rfl (by simp) (by simp) ?_
  simp [c_ref17_Ids, r_ref17_Ids]
  refine AW_wloopW (fun j : Nat => [(0, .sl 33 (l.map nodeV) .view), (3, .sl 32 ((idsB (l.take j)).map idV) .view), (4, .int .i64 j)]) (fun _ => []) (fun j => j ≤ l.length) (fun j => l.length - j) 0 (Nat.zero_le _) (Weak.view_eq 3 (by simp [viewTM, idsB])) ?_
  intro j hj
  rcases Nat.lt_or_ge j l.length with h' | h'
  · have hk2 := i64_succ j (by omega)
    obtain ⟨x, hx, hta, hm⟩ := at_k h'
    have s1 := id_shape (h x hm).id
    have hio := idsB_ok (l.take j) fun n hn => (h n (List.mem_of_mem_take hn)).id
    have hlt : (l.take j).length ≤ l.length := by rw [List.length_take]; omega
    simp [h', hx, nodeV, s1]
    refine CallB.p (f_ref04_Put _ (by omega) hio.2 x.1 (h x hm).id) ?_
    simp [hk2]
    refine ⟨j + 1, h', by omega, Weak.of_eq ?_ rfl⟩
    rw [hta, idsB_snoc]
    simp
  · have : j = l.length := by omega
    subst this
    simp

/-- The nodes of entries. -/
def nodesB (l : List Entry) : List Node := l.map fun e => (e.1, e.2.deps)

theorem f_ref18_Nodes (l : List Entry) (hl : l.length < 1000) (h : ∀ e ∈ l, Entry.Ok e) : TCp Pg n_ref18_Nodes [.sl 71 (l.map entryV) .view] (.sl 33 ((nodesB l).map nodeV) .view) := by
  refine TCp.bodyV k_ref18_Nodes hP rfl (by simp) (by simp) ?_
  simp [c_ref18_Nodes, r_ref18_Nodes]
  refine AW_wloop (fun j : Nat => [(0, .sl 71 (l.map entryV) .view), (3, .sl 33 ((nodesB (l.take j)).map nodeV) (.row 0)), (4, .int .i64 j)]) (fun j => [.row j 33]) (fun j => j ≤ l.length) (fun j => l.length - j) 0 (Nat.zero_le _) (Weak.open 3 33 rfl) ?_
  intro j hj
  rcases Nat.lt_or_ge j l.length with h' | h'
  · have hk2 := i64_succ j (by omega)
    obtain ⟨x, hx, hta, hm⟩ := at_k h'
    have s1 := id_shape (h x hm).id
    have hnl : (nodesB (l.take j)).length = j := by simp [nodesB]; omega
    simp [h', hx, entryV, patchV, s1, hk2, hnl]
    refine ⟨by omega, j + 1, h', by omega, ⟨?_, by omega⟩, rfl⟩
    rw [hta]
    simp [nodesB, nodeV]
  · have : j = l.length := by omega
    subst this
    simp

/-- A patch of an id; the empty one where there is none. -/
def noPatch : Patch := ⟨[], zero32, [], [], ⟨0, [], [], []⟩⟩
def findB (l : List Entry) (a : Bs) : Patch := match l.find? fun e => decide (e.1 = a) with
  | some e => e.2
  | none => noPatch

theorem find_some {l : List Entry} {a : Bs} {j : Nat} (h : j < l.length) (he : l[j].1 = a) (hno : ∀ i, (h : i < l.length) → i < j → ¬ l[i].1 = a) : findB l a = l[j].2 := by
  have : l.find? (fun e => decide (e.1 = a)) = some l[j] := List.find?_eq_some_iff_getElem.2 ⟨by simp [he], j, h, rfl, fun i hi => by simp [hno i (by omega) hi]⟩
  rw [findB, this]
theorem find_none {l : List Entry} {a : Bs} (hno : ∀ i, (h : i < l.length) → ¬ l[i].1 = a) : findB l a = noPatch := by
  have : l.find? (fun e => decide (e.1 = a)) = none := List.find?_eq_none.2 fun e he => by
    obtain ⟨i, hi, rfl⟩ := List.mem_iff_getElem.1 he
    simp [hno i hi]
  rw [findB, this]

theorem f_ref18_Find (l : List Entry) (hl : l.length < 1000) (h : ∀ e ∈ l, Entry.Ok e) (a : Bs) (ha : a.length = 32) : TCp Pg n_ref18_Find [.sl 71 (l.map entryV) .view, idV a] (patchV (findB l a)) := by
  have s0 := id_shape ha
  have f0 := id_fits ha
  refine TCp.bodyV k_ref18_Find hP rfl (by simp) (by simp) ?_
  have hz : patchV noPatch = .agg [.sl 32 [] .view, .agg (List.replicate 32 (.int .u8 0)), .str [], .sl 39 [] .view, .agg [.int .i64 0, .sl 32 [] .view, .sl 32 [] .view, .sl 32 [] .view]] := rfl
  simp [c_ref18_Find, r_ref18_Find]
  refine AW_wloop (fun j : Nat => [(0, .sl 71 (l.map entryV) .view), (3, .ptr 0 []), (4, .ptr 1 []), (5, .int .i64 j)]) (fun _ => [.cell (idV a), .cell (.agg [.sl 32 [] .full, .agg (List.replicate 32 (.int .u8 0)), .str [], .sl 39 [] .full, .agg [.int .i64 0, .sl 32 [] .full, .sl 32 [] .full, .sl 32 [] .full]])]) (fun j => j ≤ l.length ∧ ∀ i, (h : i < l.length) → i < j → ¬ l[i].1 = a) (fun j => l.length - j) 0 ⟨Nat.zero_le _, fun i _ q => by omega⟩ (Weak.of_eq (by simp) (by simp)) ?_
  rintro j ⟨hj, hno⟩
  rcases Nat.lt_or_ge j l.length with h' | h'
  · have hk2 := i64_succ j (by omega)
    have hm : l[j] ∈ l := List.getElem_mem h'
    have hsome := find_some (a := a) h'
    generalize hx : l[j] = x at hm hsome
    have s1 := id_shape (h x hm).id
    have f1 := id_fits (h x hm).id
    have s2 := patch_shape (h x hm).patch.key
    have hs2 : (patchV x.2).shape.size = 39 := by rw [s2]; rfl
    simp [h', hx, entryV, s0, s1, f0, f1, id_eq, s2, hk2]
    refine ⟨fun e => by rw [hsome e hno], fun e => ⟨j + 1, ⟨h', fun i hi hlt => ?_⟩, by omega, by omega⟩⟩
    rcases Nat.lt_or_ge i j with q | q
    · exact hno i hi q
    · have : i = j := by omega
      subst this
      rw [hx]; exact e
  · have : j = l.length := by omega
    subst this
    have := find_none (a := a) fun i q => hno i q q
    simp
    rw [this, hz]
    rfl
end Go.Abs
end

section
namespace Go.Abs
open Go
set_option maxRecDepth 20000

/-- Is a node not laid yet, and all that it hangs on? -/
def readyB (out : List Bs) (n : Node) : Bool := !out.contains n.1 && decide ((n.2.filter fun a => out.contains a == false).length = 0)
def stepB (out : List Bs) (b : Option Bs) (n : Node) : Option Bs := if readyB out n = true then (match b with
  | none => some n.1
  | some x => if ltB n.1 x = true then some n.1 else some x) else b
theorem step_no {out : List Bs} {b : Option Bs} {n : Node} (h : readyB out n = false) : stepB out b n = b := by unfold stepB; rw [if_neg (by rw [h]; simp)]
theorem step_new {out : List Bs} {n : Node} (h : readyB out n = true) : stepB out none n = some n.1 := by unfold stepB; rw [if_pos h]
theorem step_old {out : List Bs} {n : Node} {x : Bs} (h : readyB out n = true) : stepB out (some x) n = if ltB n.1 x = true then some n.1 else some x := by unfold stepB; rw [if_pos h]
def pickB (l : List Node) (out : List Bs) : Option Bs := l.foldl (stepB out) none
def orderN (l : List Node) : Nat → List Bs
  | 0 => []
  | k + 1 => match pickB l (orderN l k) with
    | some a => orderN l k ++ [a]
    | none => orderN l k
def orderB (l : List Node) : List Bs := orderN l l.length

theorem pick_mem (out : List Bs) : ∀ (l : List Node) (b : Option Bs) (a : Bs), l.foldl (stepB out) b = some a → b = some a ∨ ∃ n ∈ l, n.1 = a
  | [], b, a, h => .inl h
  | n :: l, b, a, h => by
    rcases pick_mem out l (stepB out b n) a h with h1 | ⟨m, h1, h2⟩
    · unfold stepB at h1
      split at h1
      · split at h1
        · exact .inr ⟨n, by simp, by simpa using h1⟩
        · split at h1
          · exact .inr ⟨n, by simp, by simpa using h1⟩
          · exact .inl h1
      · exact .inl h1
    · exact .inr ⟨m, by simp [h1], h2⟩
theorem orderN_ok (l : List Node) (h : ∀ n ∈ l, n.1.length = 32) : ∀ k, (orderN l k).length ≤ k ∧ ∀ a ∈ orderN l k, a.length = 32
  | 0 => ⟨Nat.le_refl _, by simp [orderN]⟩
  | k + 1 => by
    obtain ⟨h1, h2⟩ := orderN_ok l h k
    rw [orderN]
    cases e : pickB l (orderN l k) with
    | none => exact ⟨by simp; omega, h2⟩
    | some a =>
      refine ⟨by simp; omega, fun x hx => ?_⟩
      rcases List.mem_append.1 hx with hx | hx
      · exact h2 x hx
      · have : x = a := by simpa using hx
        subst this
        rcases pick_mem _ l none x e with h3 | ⟨n, h3, h4⟩
        · cases h3
        · rw [← h4]; exact h n h3

/-- An index, or below 0. -/
def idxI : Option Nat → Int
  | none => -1
  | some i => i

set_option maxHeartbeats 2000000 in
theorem f_ref17_Order (l : List Node) (hl : l.length < 1000) (h : ∀ n ∈ l, Node.Ok n) : TCp Pg n_ref17_Order [.sl 33 (l.map nodeV) .view] (.sl 32 ((orderB l).map idV) .view) := by
  refine TCp.bodyV k_ref17_Order hP rfl (by simp) (by simp) ?_
  have hok := orderN_ok l fun n hn => (h n hn).id
  simp [c_ref17_Order, r_ref17_Order]
  refine AW_wloopW (fun j : Nat => [(0, .sl 33 (l.map nodeV) .view), (3, .sl 32 ((orderN l j).map idV) (.row 0)), (9, .int .i64 l.length), (10, .int .i64 j)]) (fun j => [.row (orderN l j).length 32]) (fun j => j ≤ l.length) (fun j => l.length - j) 0 (Nat.zero_le _) (Weak.open 3 32 rfl) ?_
  intro j hj
  rcases Nat.lt_or_ge j l.length with h' | h'
  · have hk2 := i64_succ j (by omega)
    obtain ⟨o1, o2⟩ := hok j
    have hnext : orderN l (j + 1) = match pickB l (orderN l j) with | some a => orderN l j ++ [a] | none => orderN l j := rfl
    generalize hO : orderN l j = O at *
    simp [h']
    refine AW_wloopW (fun q : Nat × Option Nat => [(0, .sl 33 (l.map nodeV) .view), (3, .sl 32 (O.map idV) (.row 0)), (4, .int .i64 (idxI q.2)), (5, .int .i64 q.1), (9, .int .i64 l.length), (10, .int .i64 j)]) (fun _ => [.row O.length 32])
      (fun q => q.1 ≤ l.length ∧ (∀ i, q.2 = some i → i < l.length) ∧ q.2.bind (fun i => (l[i]?).map (·.1)) = (l.take q.1).foldl (stepB O) none) (fun q => l.length - q.1) (0, none) ⟨Nat.zero_le _, by simp, by simp⟩ (Weak.of_eq (by simp [idxI]) (by simp)) ?_
    rintro ⟨i, b⟩ ⟨hi, hbi, hb⟩
    simp only at hi hbi hb
    rcases Nat.lt_or_ge i l.length with h'' | h''
    · have hk3 := i64_succ i (by omega)
      obtain ⟨x, hx, hta, hm⟩ := at_k h''
      have s1 := id_shape (h x hm).id
      have s2 := node_shape (h x hm)
      have hs2 : (nodeV x).shape.size = 33 := by rw [s2]; rfl
      simp [h'', hx, nodeV, s1]
      have hol : O.length < 1000 := by omega
      refine CallB.p (f_ref04_Has O (by omega) o2 x.1 (h x hm).id) ?_
      simp [s1]
      refine CallG.of (r := .sl 32 ((x.2.filter fun a => O.contains a == false).map idV) .view) (fun q => ⟨q, f_ref04_Only x.2 O (h x hm).deps.len (by omega) (h x hm).deps.ids o2 false⟩) ?_
      have hstep : (l.take (i + 1)).foldl (stepB O) none = stepB O ((l.take i).foldl (stepB O) none) x := by rw [hta, List.foldl_append]; rfl
      have hready : readyB O x = (!O.contains x.1 && decide ((x.2.filter fun a => O.contains a == false).length = 0)) := rfl
      generalize (x.2.filter fun a => O.contains a == false) = D at *
      have hcut : ∀ (tm : TM) (n : Nat) (y : V), underTM 1 tm = true → Weak 0 tm [.row n 32, .cell y] tm [.row n 32] := fun tm n y ht => Weak.take (H := [.row n 32, .cell y]) 1 (by omega) ht (by simp [underH])
      by_cases hc : x.1 ∈ O
      · have hr : readyB O x = false := by rw [hready]; simp [hc]
        simp [hc, hk3]
        refine ⟨i + 1, b, ⟨h'', hbi, ?_⟩, by omega, (hcut _ _ _ (by simp [V.under])).trans (Weak.of_eq (by simp) rfl)⟩
        rw [hstep, step_no hr]
        exact hb
      by_cases hD : D = []
      · subst hD
        have hr : readyB O x = true := by rw [hready]; simp [hc]
        cases b with
        | none =>
          have hb0 : (l.take i).foldl (stepB O) none = none := by rw [← hb]; rfl
          have hl0 : 0 < l.length := by omega
          generalize hy0 : l[0] = y0
          simp [hc, hk3, idxI, hl0, hy0, nodeV, s1]
          refine CallG.of (r := .bool true) (fun q => by cases q) ?_
          simp [hk3]
          refine ⟨i + 1, some i, ⟨h'', fun q hq => by cases hq; exact h'', ?_⟩, by omega, (hcut _ _ _ (by simp [V.under])).trans (Weak.of_eq (by simp) rfl)⟩
          rw [hstep, hb0, step_new hr]
          simp [h'', hx]
        | some m =>
          have hml := hbi m rfl
          have hym : l[m] ∈ l := List.getElem_mem hml
          generalize hy : l[m] = y at hym
          have s3 := id_shape (h y hym).id
          have hb0 : (l.take i).foldl (stepB O) none = some y.1 := by rw [← hb]; simp [hml, hy]
          have hm0 : ¬ ((m : Int) < 0) := by omega
          simp [hc, hk3, idxI, hml, hy, nodeV, s1, s3, hm0]
          refine CallG.of (r := .bool (ltB x.1 y.1)) (fun q => ⟨q, f_ref04_Less x.1 y.1 (h x hm).id (h y hym).id⟩) ?_
          cases e : ltB x.1 y.1 with
          | true =>
            simp [hk3]
            refine ⟨i + 1, some i, ⟨h'', fun q hq => by cases hq; exact h'', ?_⟩, by omega, (hcut _ _ _ (by simp [V.under])).trans (Weak.of_eq (by simp) rfl)⟩
            rw [hstep, hb0, step_old hr, if_pos e]
            simp [h'', hx]
          | false =>
            simp [hk3]
            refine ⟨i + 1, some m, ⟨h'', fun q hq => by cases hq; exact hml, ?_⟩, by omega, (hcut _ _ _ (by simp [V.under])).trans (Weak.of_eq (by simp) rfl)⟩
            rw [hstep, hb0, step_old hr, if_neg (by rw [e]; simp)]
            simp [hml, hy]
      · have hr : readyB O x = false := by rw [hready]; simp [hc, hD]
        have hD2 : 0 < D.length := List.length_pos_iff.2 hD
        simp [hc, hk3, hD2]
        refine ⟨i + 1, b, ⟨h'', hbi, ?_⟩, by omega, (hcut _ _ _ (by simp [V.under])).trans (Weak.of_eq (by simp) rfl)⟩
        rw [hstep, step_no hr]
        exact hb
    · have : i = l.length := by omega
      subst this
      rw [List.take_length] at hb
      have hp : pickB l O = l.foldl (stepB O) none := rfl
      cases b with
      | none =>
        have hp0 : pickB l O = none := by rw [hp, ← hb]; rfl
        rw [hp0] at hnext
        simp [idxI, hk2]
        exact ⟨j + 1, h', by omega, Weak.of_eq (by rw [hnext]; simp) (by rw [hnext])⟩
      | some m =>
        have hml := hbi m rfl
        have hym : l[m] ∈ l := List.getElem_mem hml
        generalize hy : l[m] = y at hym
        have s3 := id_shape (h y hym).id
        have hp0 : pickB l O = some y.1 := by rw [hp, ← hb]; simp [hml, hy]
        rw [hp0] at hnext
        simp [idxI, hk2, hml, hy, nodeV, s3]
        exact ⟨by omega, j + 1, h', by omega, Weak.of_eq (by rw [hnext]; simp) (by rw [hnext]; simp)⟩
  · have : j = l.length := by omega
    subst this
    simp [orderB]
end Go.Abs
end

section
namespace Go.Abs
open Go
set_option maxRecDepth 20000

def oneStep (o : List Entry) (e : Entry) : List Entry := if (idsB (nodesB o)).contains e.1 = true then o else o ++ [e]
def oneB (l : List Entry) : List Entry := l.foldl oneStep []
def nodesOf (one : List Entry) (ids : List Bs) : List Node := one.map fun e => (e.1, e.2.deps.filter fun a => ids.contains a == true)
def sortNodes (l : List Patch) : List Node := nodesOf (oneB (named l)) (idsB (nodesB (oneB (named l))))
def sortedErr (l : List Patch) : Int := if namedErr l = 0 then (if (orderB (sortNodes l)).length < (sortNodes l).length then 17 else 0) else namedErr l
def sortedB (l : List Patch) : List Patch := (orderB (sortNodes l)).map (findB (oneB (named l)))

theorem one_ok : ∀ (l o : List Entry), (∀ e ∈ l, Entry.Ok e) → (∀ e ∈ o, Entry.Ok e) → (l.foldl oneStep o).length ≤ o.length + l.length ∧ ∀ e ∈ l.foldl oneStep o, Entry.Ok e
  | [], o, _, h => ⟨Nat.le_refl _, h⟩
  | n :: l, o, h, ho => by
    have h2 : ∀ e ∈ oneStep o n, Entry.Ok e := by
      unfold oneStep; split
      · exact ho
      · intro e he
        rcases List.mem_append.1 he with he | he
        · exact ho e he
        · have : e = n := by simpa using he
          subst this; exact h _ (by simp)
    have h3 : (oneStep o n).length ≤ o.length + 1 := by unfold oneStep; split <;> simp
    obtain ⟨g1, g2⟩ := one_ok l (oneStep o n) (fun m hm => h m (by simp [hm])) h2
    simp only [List.foldl_cons, List.length_cons]
    exact ⟨by omega, g2⟩

theorem nodes_ok {l : List Entry} (h : ∀ e ∈ l, Entry.Ok e) : ∀ n ∈ nodesB l, Node.Ok n := by
  intro n hn
  obtain ⟨e, he, rfl⟩ := List.mem_map.1 hn
  exact ⟨(h e he).id, (h e he).patch.deps⟩
theorem nodesOf_ok {l : List Entry} (ids : List Bs) (h : ∀ e ∈ l, Entry.Ok e) : ∀ n ∈ nodesOf l ids, Node.Ok n := by
  intro n hn
  obtain ⟨e, he, rfl⟩ := List.mem_map.1 hn
  have hd := (h e he).patch.deps
  exact ⟨(h e he).id, ⟨Nat.lt_of_le_of_lt (List.length_filter_le _ _) hd.len, fun a ha => hd.ids a (List.mem_filter.1 ha).1⟩⟩

theorem find_key {l : List Entry} (h : ∀ e ∈ l, Entry.Ok e) (a : Bs) : (findB l a).key.length = 32 := by
  unfold findB
  split
  · rename_i e he
    exact (h e (List.mem_of_find?_eq_some he)).patch.key
  · rfl

set_option maxHeartbeats 4000000 in
theorem f_ref26_Sorted (l : List Patch) (hl : l.length < 1000) (h : ∀ p ∈ l, p.Ok) (hb : ∀ p ∈ l, (bytesB p).length < 100000000) :
    TCp Pg n_ref26_Sorted [.sl 39 (l.map patchV) .view] (.tup [.sl 39 ((if sortedErr l = 0 then sortedB l else []).map patchV) .view, .int .i64 (sortedErr l)]) := by
  refine TCp.bodyT k_ref26_Sorted hP rfl (by simp) (by simp [V.under, V.underL]) ?_
  generalize hR : (V.tup [.sl 39 ((if sortedErr l = 0 then sortedB l else []).map patchV) .view, .int .i64 (sortedErr l)]) = R
  simp [c_ref26_Sorted, r_ref26_Sorted]
  refine CallB.p (f_ref18_Named l hl h hb) ?_
  by_cases e : namedErr l = 0
  · have hE : ∀ x ∈ named l, Entry.Ok x := by
      intro x hx
      obtain ⟨p, hp, rfl⟩ := List.mem_map.1 hx
      exact ⟨sha_length _, h p hp⟩
    have hEl : (named l).length = l.length := by simp [named]
    simp [e]
    have hR2 : R = V.tup [.sl 39 ((if (orderB (sortNodes l)).length < (sortNodes l).length then [] else sortedB l).map patchV) .view, .int .i64 (if (orderB (sortNodes l)).length < (sortNodes l).length then 17 else 0)] := by
      rw [← hR]
      simp only [sortedErr, e, if_true]
      split <;> simp
    unfold sortedB at hR2
    unfold sortNodes at hR2
    clear hR
    generalize named l = E at *
    refine AW_wloop (fun j : Nat => [(4, .sl 71 (E.map entryV) .view), (6, .sl 71 ((oneB (E.take j)).map entryV) (.row 0)), (7, .int .i64 j)]) (fun j => [.row (oneB (E.take j)).length 71]) (fun j => j ≤ E.length) (fun j => E.length - j) 0 (Nat.zero_le _) (Weak.open 6 71 rfl) ?_
    intro j hj
    rcases Nat.lt_or_ge j E.length with h' | h'
    · have hk2 := i64_succ j (by omega)
      obtain ⟨x, hx, hta, hm⟩ := at_k h'
      have hlt : (E.take j).length ≤ E.length := by rw [List.length_take]; omega
      obtain ⟨o1, o2⟩ := one_ok (E.take j) [] (fun e he => hE e (List.mem_of_mem_take he)) (by simp)
      have hnext : oneB (E.take (j + 1)) = oneStep (oneB (E.take j)) x := by rw [hta]; simp [oneB]
      change (oneB (E.take j)).length ≤ _ at o1
      change ∀ e ∈ oneB (E.take j), _ at o2
      rw [List.length_nil, Nat.zero_add] at o1
      generalize oneB (E.take j) = O at *
      have n1 := nodes_ok o2
      have n2 : (nodesB O).length = O.length := by simp [nodesB]
      have i1 := idsB_ok (nodesB O) fun n hn => (n1 n hn).id
      have s1 := id_shape (hE x hm).id
      have s2 := entry_shape (hE x hm)
      have hs2 : (entryV x).shape.size = 71 := by rw [s2]; rfl
      simp [h']
      refine CallQ.of (f_ref18_Nodes O (by omega) o2) ?_
      simp
      refine CallQ.of (f_ref17_Ids (nodesB O) (by omega) n1) ?_
      simp [h', hx, entryV, s1]
      refine CallQ.of (f_ref04_Has _ (by omega) i1.2 x.1 (hE x hm).id) ?_
      by_cases hc : x.1 ∈ idsB (nodesB O)
      · have hs : oneStep O x = O := by unfold oneStep; rw [if_pos (by simpa using hc)]
        simp [hc, hk2]
        exact ⟨j + 1, h', by omega, ⟨by rw [hnext, hs], by omega⟩, by rw [hnext, hs]⟩
      · have hs : oneStep O x = O ++ [x] := by unfold oneStep; rw [if_neg (by simpa using hc)]
        have hs3 : V.shape (V.agg [idV x.1, patchV x.2]) = (entryV x).shape := rfl
        simp [hc, hk2, h', hx]
        exact ⟨hs2, by omega, j + 1, h', by omega, ⟨by rw [hnext, hs]; simp, by omega⟩, by rw [hnext, hs]; simp⟩
    · have : j = E.length := by omega
      subst this
      rw [List.take_length]
      simp
      obtain ⟨o1, o2⟩ := one_ok E [] hE (by simp)
      change (oneB E).length ≤ _ at o1
      change ∀ e ∈ oneB E, _ at o2
      rw [List.length_nil, Nat.zero_add] at o1
      generalize oneB E = O at *
      have n1 := nodes_ok o2
      have n2 : (nodesB O).length = O.length := by simp [nodesB]
      have i1 := idsB_ok (nodesB O) fun n hn => (n1 n hn).id
      refine CallB.p (f_ref18_Nodes O (by omega) o2) ?_
      simp
      refine CallB.p (f_ref17_Ids (nodesB O) (by omega) n1) ?_
      simp
      generalize idsB (nodesB O) = I at *
      refine AW_wloop (fun j : Nat => [(6, .sl 71 (O.map entryV) (.row 0)), (8, .sl 32 (I.map idV) .view), (9, .sl 33 ((nodesOf (O.take j) I).map nodeV) (.row 1)), (10, .int .i64 j)]) (fun j => [.row O.length 71, .row j 33]) (fun j => j ≤ O.length) (fun j => O.length - j) 0 (Nat.zero_le _) (Weak.open 9 33 rfl) ?_
      intro j hj
      rcases Nat.lt_or_ge j O.length with h' | h'
      · have hk2 := i64_succ j (by omega)
        obtain ⟨x, hx, hta, hm⟩ := at_k h'
        have s1 := id_shape (o2 x hm).id
        have hd := (o2 x hm).patch.deps
        have hnl : (nodesOf (O.take j) I).length = j := by simp [nodesOf]; omega
        have hnx : nodesOf (O.take (j + 1)) I = nodesOf (O.take j) I ++ [(x.1, x.2.deps.filter fun a => I.contains a == true)] := by rw [hta]; simp [nodesOf]
        simp [h', hx, entryV, patchV, s1]
        refine CallQ.of (f_ref04_Only x.2.deps I hd.len (by omega) hd.ids i1.2 true) ?_
        generalize (x.2.deps.filter fun a => I.contains a == true) = D at *
        simp [s1, hk2, hnl]
        refine ⟨by omega, j + 1, h', by omega, ⟨?_, by omega⟩, rfl⟩
        rw [hnx]
        simp [nodeV]
      · have : j = O.length := by omega
        subst this
        rw [List.take_length]
        have m1 := nodesOf_ok I o2
        have m2 : (nodesOf O I).length = O.length := by simp [nodesOf]
        generalize nodesOf O I = N at *
        simp
        refine CallB.p (f_ref17_Order N (by omega) m1) ?_
        obtain ⟨q1, q2⟩ := orderN_ok N (fun n hn => (m1 n hn).id) N.length
        change (orderB N).length ≤ _ at q1
        change ∀ a ∈ orderB N, _ at q2
        generalize orderB N = B at *
        by_cases hlt : B.length < N.length
        · have hli : (B.length : Int) < N.length := by omega
          simp [hli, hlt, hR2]
        · have hli : ¬ (B.length : Int) < N.length := by omega
          simp only [hlt, if_false] at hR2
          simp [hli]
          refine AW_wloop (fun j : Nat => [(6, .sl 71 (O.map entryV) (.row 0)), (11, .sl 32 (B.map idV) .view), (12, .sl 39 (((B.take j).map (findB O)).map patchV) (.row 2)), (13, .int .i64 j)]) (fun j => [.row O.length 71, .row O.length 33, .row j 39]) (fun j => j ≤ B.length) (fun j => B.length - j) 0 (Nat.zero_le _) (Weak.open 12 39 rfl) ?_
          intro j hj
          rcases Nat.lt_or_ge j B.length with h' | h'
          · have hk2 := i64_succ j (by omega)
            obtain ⟨x, hx, hta, hm⟩ := at_k h'
            simp [h', hx, id_shape (q2 x hm)]
            have hfk : (patchV (findB O x)).shape.size = 39 := by rw [patch_shape (find_key o2 x)]; rfl
            refine CallB.p (f_ref18_Find O (by omega) o2 x (q2 x hm)) ?_
            simp [hk2, hfk]
            refine ⟨by omega, by omega, j + 1, h', by omega, ⟨?_, by omega⟩, by omega⟩
            rw [← List.map_take, ← List.map_take, hta]
            simp
          · have : j = B.length := by omega
            subst this
            rw [List.take_length]
            simp [hR2]
            rw [← List.map_map]
            exact ⟨patches_fzL _ _ _ _, by rw [patches_fzL]; exact patches_underL _ _⟩
  · have he : sortedErr l = namedErr l := by simp [sortedErr, e]
    simp [e]
    rw [← hR, he]
    simp [e]
end Go.Abs
end
