/-
  Patches out of what is read.
  Conditions: those that stand ahead of each theorem; no more.
-/
import Derived.Test.YtblnejkfaniljaaGreatDoorT29
import Derived.Test.YtblnejkfaniljaaGreatDoorT31
import Derived.Test.YtblnejkfaniljaaGreatDoorT35

section
namespace Go.Abs
open Go

def tId : PT := .arr 32 (.int .u8)
def tIds : PT := .sl tId
def tSig : PT := .agg [.int .i64, tIds, tIds, tIds]
def tOp : PT := .agg [.int .i64, .str, .str, .int .i64, .sl .str, .sl .str, tId, .int .i64]
def tPatch : PT := .agg [tIds, tId, .str, .sl tOp, tSig]
def tPatches : PT := .sl tPatch

theorem list_of {α : Type} {f : α → V} {Q : α → Prop} : ∀ {xs : List V}, (∀ x ∈ xs, ∃ a, x = f a ∧ Q a) → ∃ l : List α, xs = l.map f ∧ ∀ a ∈ l, Q a
  | [], _ => ⟨[], rfl, by simp⟩
  | x :: xs, h => by
    obtain ⟨a, rfl, ha⟩ := h x (by simp)
    obtain ⟨l, rfl, hl⟩ := list_of (xs := xs) fun y hy => h y (by simp [hy])
    exact ⟨a :: l, rfl, by simpa using ⟨ha, hl⟩⟩

theorem take_byte {v : V} (h : (PT.int .u8).Fit v) : ∃ b : UInt8, v = byteV b ∧ True := by
  obtain ⟨n, rfl, h1, h2⟩ := h
  simp [IntKind.min, IntKind.max, IntKind.signed, IntKind.bits] at h1 h2
  refine ⟨UInt8.ofNat n.toNat, ?_, trivial⟩
  simp only [byteV, UInt8.toNat_ofNat']
  congr 1
  omega
theorem take_str {v : V} (h : PT.str.Fit v) : ∃ s : Bs, v = strV s ∧ True := by
  obtain ⟨s, rfl⟩ := h
  exact ⟨s, rfl, trivial⟩
theorem take_id {v : V} (h : tId.Fit v) : ∃ a : Bs, v = idV a ∧ a.length = 32 := by
  obtain ⟨xs, rfl, hl, hx⟩ := h
  obtain ⟨l, rfl, _⟩ := list_of fun x hxx => take_byte (hx x hxx)
  exact ⟨l, rfl, by simpa using hl⟩
theorem take_ids {v : V} (h : tIds.Fit v) : ∃ l : List Bs, v = .sl 32 (l.map idV) .view ∧ ∀ a ∈ l, a.length = 32 := by
  obtain ⟨xs, rfl, hx⟩ := h
  obtain ⟨l, rfl, hl⟩ := list_of fun x hxx => take_id (hx x hxx)
  exact ⟨l, rfl, hl⟩
theorem take_strs {v : V} (h : (PT.sl .str).Fit v) : ∃ l : List Bs, v = .sl 1 (l.map strV) .view := by
  obtain ⟨xs, rfl, hx⟩ := h
  obtain ⟨l, rfl, hl⟩ := list_of fun x hxx => take_str (hx x hxx)
  exact ⟨l, rfl⟩
theorem take_int {v : V} (h : (PT.int .i64).Fit v) : ∃ n, v = .int .i64 n ∧ -9223372036854775808 ≤ n ∧ n < 9223372036854775808 := by
  obtain ⟨n, rfl, h1, h2⟩ := h
  simp [IntKind.min, IntKind.max, IntKind.signed, IntKind.bits] at h1 h2
  exact ⟨n, rfl, by omega, by omega⟩

theorem ids_bulk {l : List Bs} {N : Nat} (h : (V.sl 32 (l.map idV) .view).bulk ≤ N) : l.length < N := by
  have := V.bulkL_length (l.map idV)
  rw [V.bulk] at h
  simp at this
  omega
theorem strs_bulk {l : List Bs} {N : Nat} (h : (V.sl 1 (l.map strV) .view).bulk ≤ N) : l.length < N ∧ ∀ s ∈ l, s.length < N := by
  have h1 := V.bulkL_length (l.map strV)
  rw [V.bulk] at h
  simp at h1
  refine ⟨by omega, fun s hs => ?_⟩
  have h2 := V.bulkL_mem (List.mem_map_of_mem (f := strV) hs)
  simp only [strV, V.bulk] at h2
  omega

theorem take_op {v : V} (h : tOp.Fit v) : ∃ o : POp, v = popV o ∧ (o.key.length = 32 ∧ -9223372036854775808 ≤ o.kind ∧ o.kind < 9223372036854775808 ∧ -9223372036854775808 ≤ o.at_ ∧ o.at_ < 9223372036854775808 ∧ -9223372036854775808 ≤ o.depth ∧ o.depth < 9223372036854775808) := by
  obtain ⟨_, rfl, _, _, rfl, h1, _, _, rfl, h2, _, _, rfl, h3, _, _, rfl, h4, _, _, rfl, h5, _, _, rfl, h6, _, _, rfl, h7, _, _, rfl, h8, rfl⟩ := h
  obtain ⟨kind, rfl, k1, k2⟩ := take_int h1
  obtain ⟨path, rfl, _⟩ := take_str h2
  obtain ⟨dest, rfl, _⟩ := take_str h3
  obtain ⟨at_, rfl, a1, a2⟩ := take_int h4
  obtain ⟨old, rfl⟩ := take_strs h5
  obtain ⟨new, rfl⟩ := take_strs h6
  obtain ⟨key, rfl, hk⟩ := take_id h7
  obtain ⟨depth, rfl, d1, d2⟩ := take_int h8
  exact ⟨⟨kind, path, dest, at_, old, new, key, depth⟩, rfl, hk, k1, k2, a1, a2, d1, d2⟩

theorem op_ok {o : POp} (hk : o.key.length = 32) (h : (popV o).bulk ≤ 1048576) : o.Ok := by
  simp only [popV, V.bulk, V.bulkL] at h
  have h1 := @strs_bulk o.old 1048576 (by rw [V.bulk]; omega)
  have h2 := @strs_bulk o.new 1048576 (by rw [V.bulk]; omega)
  exact ⟨hk, by omega, by omega, by omega, by omega, fun s hs => by have := h1.2 s hs; omega, fun s hs => by have := h2.2 s hs; omega⟩

theorem take_sig {v : V} (h : tSig.Fit v) : ∃ x : Sig, v = sigV x ∧ ((∀ a ∈ x.shown, a.length = 32) ∧ (∀ a ∈ x.hidden, a.length = 32) ∧ (∀ a ∈ x.way, a.length = 32) ∧ -9223372036854775808 ≤ x.leaf ∧ x.leaf < 9223372036854775808) := by
  obtain ⟨_, rfl, _, _, rfl, h1, _, _, rfl, h2, _, _, rfl, h3, _, _, rfl, h4, rfl⟩ := h
  obtain ⟨leaf, rfl, k1, k2⟩ := take_int h1
  obtain ⟨shown, rfl, g1⟩ := take_ids h2
  obtain ⟨hidden, rfl, g2⟩ := take_ids h3
  obtain ⟨way, rfl, g3⟩ := take_ids h4
  exact ⟨⟨leaf, shown, hidden, way⟩, rfl, g1, g2, g3, k1, k2⟩

/-- The integers of a patch are those of the machine. -/
structure Patch.Fits (p : Patch) : Prop where
  key : p.key.length = 32
  deps : ∀ a ∈ p.deps, a.length = 32
  ops : ∀ o ∈ p.ops, (o.key.length = 32 ∧ -9223372036854775808 ≤ o.kind ∧ o.kind < 9223372036854775808 ∧ -9223372036854775808 ≤ o.at_ ∧ o.at_ < 9223372036854775808 ∧ -9223372036854775808 ≤ o.depth ∧ o.depth < 9223372036854775808)
  sign : (∀ a ∈ p.sign.shown, a.length = 32) ∧ (∀ a ∈ p.sign.hidden, a.length = 32) ∧ (∀ a ∈ p.sign.way, a.length = 32) ∧ -9223372036854775808 ≤ p.sign.leaf ∧ p.sign.leaf < 9223372036854775808

theorem take_patch {v : V} (h : tPatch.Fit v) : ∃ p : Patch, v = patchV p ∧ p.Fits := by
  obtain ⟨_, rfl, _, _, rfl, h1, _, _, rfl, h2, _, _, rfl, h3, _, _, rfl, ⟨ops, rfl, h4⟩, _, _, rfl, h5, rfl⟩ := h
  obtain ⟨deps, rfl, g1⟩ := take_ids h1
  obtain ⟨key, rfl, g2⟩ := take_id h2
  obtain ⟨note, rfl, _⟩ := take_str h3
  obtain ⟨l, rfl, g4⟩ := list_of fun x hx => take_op (h4 x hx)
  obtain ⟨sign, rfl, g5⟩ := take_sig h5
  exact ⟨⟨deps, key, note, l, sign⟩, rfl, g2, g1, g4, g5⟩

theorem patch_ok {p : Patch} (hf : p.Fits) (h : (patchV p).bulk ≤ 1048576) : p.Ok := by
  simp only [patchV, sigV, V.bulk, V.bulkL] at h
  have h1 := @ids_bulk p.deps 1048576 (by rw [V.bulk]; omega)
  have h2 := @ids_bulk p.sign.shown 1048576 (by rw [V.bulk]; omega)
  have h3 := @ids_bulk p.sign.hidden 1048576 (by rw [V.bulk]; omega)
  have h4 := @ids_bulk p.sign.way 1048576 (by rw [V.bulk]; omega)
  have h5 := V.bulkL_length (p.ops.map popV)
  simp at h5
  refine ⟨hf.key, ⟨by omega, hf.deps⟩, by omega, by omega, fun o ho => op_ok (hf.ops o ho).1 ?_, ⟨⟨by omega, hf.sign.1⟩, ⟨by omega, hf.sign.2.1⟩, ⟨by omega, hf.sign.2.2.1⟩⟩⟩
  have := V.bulkL_mem (List.mem_map_of_mem (f := popV) ho)
  omega

theorem take_patches {v : V} (h : tPatches.Fit v) (hb : v.bulk ≤ 1048576) : ∃ l : List Patch, v = .sl 39 (l.map patchV) .view ∧ l.length < 1048576 ∧ (∀ p ∈ l, p.Ok) ∧ ∀ p ∈ l, p.Fits := by
  obtain ⟨xs, rfl, hx⟩ := h
  obtain ⟨l, rfl, hl⟩ := list_of fun x hxx => take_patch (hx x hxx)
  rw [V.bulk] at hb
  have h1 := V.bulkL_length (l.map patchV)
  simp at h1
  exact ⟨l, rfl, by omega, fun p hp => patch_ok (hl p hp) (by have := V.bulkL_mem (List.mem_map_of_mem (f := patchV) hp); omega), hl⟩

theorem Patch.Fits.ranged {p : Patch} (h : p.Fits) : Ranged p :=
  ⟨h.sign.2.2.2.2, fun o ho => (h.ops o ho).2.2.2.2.1, fun o ho => (h.ops o ho).2.2.2.2.2.2⟩
end Go.Abs
end
