/-
  All of them. Words and bytes: contracts. Words and bytes: more contracts. The eight bytes of a number: contracts. A number's eight bytes, as the reference has them. The padding of a text: contracts. The program's data, as abstract values. The sum of a text: what it is; the small functions' contracts. Bytes as words: contracts.
  Conditions: those that stand ahead of each theorem; no more.
-/
import Derived.Test.YtblnejkfaniljaaGreatDoorT15
import Derived.Test.YtblnejkfaniljaaGreatDoorT16
import Derived.Test.YtblnejkfaniljaaGreatDoorT17
import Derived.Test.YtblnejkfaniljaaGreatDoorT18
import Derived.Test.YtblnejkfaniljaaGreatDoorT19
import Derived.Test.YtblnejkfaniljaaGreatDoorT20
import Derived.Test.YtblnejkfaniljaaGreatDoorT21
import Derived.Test.YtblnejkfaniljaaGreatDoorT22

section

end

section
namespace Go.Abs
open Go
set_option maxRecDepth 20000

theorem f_word_Left (w : UInt32) (n : Nat) (h : n ≤ 64) : TCp Pg n_word_Left [wV w, .int .i64 n] (wV (rotl w n)) := by
  refine TCp.body k_word_Left hP rfl rfl rfl ?_
  have ha : ibits .and .i64 (n : Int) 31 = ((n % 32 : Nat) : Int) := and31 ⟨n, by omega⟩
  have hm : n % 32 < 32 := Nat.mod_lt _ (by decide)
  have hs := u32_shl w (n % 32) (by omega)
  have hw : IntKind.i64.wrap (32 - ((n % 32 : Nat) : Int)) = ((32 - n % 32 : Nat) : Int) := by rw [wrap_i64 (by omega) (by omega)]; omega
  simp [c_word_Left, r_word_Left, wV]
  rw [ha, hw, hs]
  refine ⟨by omega, by omega, ?_⟩
  unfold rotl
  by_cases h0 : n % 32 = 0
  · rw [h0, if_pos rfl]
    have := u32_shr_out w
    have h32 : (((32 - 0 : Nat)) : Int) = 32 := rfl
    rw [h32, this]
    have := u32_or (w <<< UInt32.ofNat 0) 0
    exact this
  · rw [if_neg h0, u32_shr w (32 - n % 32) (by omega), u32_or]

theorem f_word_Right (w : UInt32) (n : Nat) (h : n ≤ 64) : TCp Pg n_word_Right [wV w, .int .i64 n] (wV (rotr w n)) := by
  refine TCp.body k_word_Right hP rfl rfl rfl ?_
  have ha : ibits .and .i64 (n : Int) 31 = ((n % 32 : Nat) : Int) := and31 ⟨n, by omega⟩
  have hw : IntKind.i64.wrap (32 - ((n % 32 : Nat) : Int)) = ((32 - n % 32 : Nat) : Int) := by rw [wrap_i64 (by omega) (by omega)]; omega
  simp [c_word_Right, r_word_Right, wV]
  rw [ha, hw]
  refine CallB.p (f_word_Left w (32 - n % 32) (by omega)) ?_
  simp [wV]
  rfl

/-- The four bytes of a word. -/
def be4 (w : UInt32) : List UInt8 := [b8 ((w.toNat / 2 ^ 24 : Nat) : Int), b8 ((w.toNat / 2 ^ 16 : Nat) : Int), b8 ((w.toNat / 2 ^ 8 : Nat) : Int), b8 (w.toNat : Int)]

theorem flat_be4_length (l : List UInt32) : (l.flatMap be4).length = 4 * l.length := by
  induction l with
  | nil => rfl
  | cons w l ih => simp [ih, be4]; omega

theorem underL_map {α : Type} (f : α → V) (m : Nat) (h : ∀ a, (f a).under m = true) (l : List α) : V.underL m (l.map f) = true := by
  induction l with
  | nil => rfl
  | cons a l ih => simp [V.underL, h, ih]

@[simp] theorem words_underL (m : Nat) (l : List UInt32) : V.underL m (l.map wV) = true := underL_map wV m (fun _ => rfl) l

theorem f_word_Bytes (l : List UInt32) (hl : l.length < 1073741824) : TCp Pg n_word_Bytes [.sl 1 (l.map wV) .view] (.str (l.flatMap be4)) := by
  refine TCp.body k_word_Bytes hP rfl (by simp) rfl ?_
  simp [c_word_Bytes, r_word_Bytes]
  have h4 : IntKind.i64.wrap (4 * (l.length : Int)) = 4 * l.length := wrap_i64 (by omega) (by omega)
  rw [h4]
  refine ⟨by omega, by omega, ?_⟩
  refine AW_wloop (fun k : Nat => [(3, .sl 1 (bytesV ((l.take k).flatMap be4)) (.row 0)), (10, .sl 1 (l.map wV) .view), (11, .int .i64 l.length), (12, .int .i64 k)]) (fun k => [.row (4 * k) 1]) (fun k => k ≤ l.length) (fun k => l.length - k) 0 (Nat.zero_le _) (Weak.of_eq (by simp) (by simp)) ?_
  intro k hk
  have hlen : ((l.take k).flatMap be4).length = 4 * k := by rw [flat_be4_length, List.length_take]; omega
  rcases Nat.lt_or_ge k l.length with h | h
  · obtain ⟨w, hw⟩ : ∃ w, l[k]? = some w := ⟨_, List.getElem?_eq_getElem h⟩
    have hk1 : IntKind.i64.wrap ((k : Int) + 1) = ((k + 1 : Nat) : Int) := by rw [wrap_i64 (by omega) (by omega)]; rfl
    have s24 : shr .u32 (w.toNat : Int) 24 = _ := shr_u32 w 24 (by omega)
    have s16 : shr .u32 (w.toNat : Int) 16 = _ := shr_u32 w 16 (by omega)
    have s8 : shr .u32 (w.toNat : Int) 8 = _ := shr_u32 w 8 (by omega)
    have hw' : l[k] = w := by rw [List.getElem?_eq_getElem h] at hw; exact Option.some.inj hw
    have ht : (l.take (k + 1)).flatMap be4 = (l.take k).flatMap be4 ++ be4 w := by rw [List.take_add_one, hw]; simp
    simp [wV, h, hlen, hk1]
    refine ⟨by omega, k + 1, h, by omega, ⟨?_, by omega⟩, by omega⟩
    rw [ht, hw', s24, s16, s8, byteV_wrap, byteV_wrap, byteV_wrap, byteV_wrap, ← bytesV_append]
    rfl
  · have : k = l.length := by omega
    subst this
    simp
    exact bytesV_isByte _

theorem f_ref01_Bytes (l : List UInt32) (hl : l.length < 1073741824) : TCp Pg n_ref01_Bytes [.sl 1 (l.map wV) .view] (.str (l.flatMap be4)) := by
  refine TCp.body k_ref01_Bytes hP rfl (by simp) rfl ?_
  simp [c_ref01_Bytes, r_ref01_Bytes]
  refine AW_wloop (fun k : Nat => [(0, .sl 1 (l.map wV) .view), (3, .sl 1 (bytesV ((l.take k).flatMap be4)) (.row 0)), (4, .int .i64 k)]) (fun k => [.row (4 * k) 1]) (fun k => k ≤ l.length) (fun k => l.length - k) 0 (Nat.zero_le _) (Weak.open 3 1 rfl) ?_
  intro k hk
  have hlen : ((l.take k).flatMap be4).length = 4 * k := by rw [flat_be4_length, List.length_take]; omega
  rcases Nat.lt_or_ge k l.length with h | h
  · obtain ⟨w, hw⟩ : ∃ w, l[k]? = some w := ⟨_, List.getElem?_eq_getElem h⟩
    have hk1 : IntKind.i64.wrap ((k : Int) + 1) = ((k + 1 : Nat) : Int) := by rw [wrap_i64 (by omega) (by omega)]; rfl
    have hw' : l[k] = w := by rw [List.getElem?_eq_getElem h] at hw; exact Option.some.inj hw
    have ht : (l.take (k + 1)).flatMap be4 = (l.take k).flatMap be4 ++ be4 w := by rw [List.take_add_one, hw]; simp
    simp [wV, h, hlen, hk1]
    refine ⟨by omega, k + 1, h, by omega, ⟨?_, by omega⟩, by omega⟩
    have hwl := w.toNat_lt
    have e1 : b8 (IntKind.u32.wrap ((w.toNat : Int) / 16777216)) = b8 ((w.toNat / 2 ^ 24 : Nat) : Int) := by rw [wrap_u32_of (by omega) (by omega)]; congr 1
    have e2 : b8 ((IntKind.u32.wrap ((w.toNat : Int) / 65536)).tmod 256) = b8 ((w.toNat / 2 ^ 16 : Nat) : Int) := by rw [wrap_u32_of (by omega) (by omega), b8_tmod (by omega)]; congr 1
    have e3 : b8 ((IntKind.u32.wrap ((w.toNat : Int) / 256)).tmod 256) = b8 ((w.toNat / 2 ^ 8 : Nat) : Int) := by rw [wrap_u32_of (by omega) (by omega), b8_tmod (by omega)]; congr 1
    have e4 : b8 ((w.toNat : Int).tmod 256) = b8 (w.toNat : Int) := b8_tmod (by omega)
    rw [ht, hw', byteV_wrap, byteV_wrap, byteV_wrap, byteV_wrap, ← bytesV_append, e1, e2, e3, e4]
    rfl
  · have : k = l.length := by omega
    subst this
    simp
    exact bytesV_isByte _
end Go.Abs
end

section
namespace Go.Abs
open Go
set_option maxRecDepth 20000

theorem rotr_eq (w : UInt32) (n : Nat) (h : 0 < n) (h2 : n < 32) : rotr w n = (w >>> UInt32.ofNat n) ||| (w <<< UInt32.ofNat (32 - n)) := by
  unfold rotr rotl
  have e1 : n % 32 = n := Nat.mod_eq_of_lt h2
  have e2 : (32 - n) % 32 = 32 - n := Nat.mod_eq_of_lt (by omega)
  rw [e1, e2, if_neg (by omega), show 32 - (32 - n) = n by omega, UInt32.or_comm]

theorem f_ref02_turn (w : UInt32) (n : Nat) (h : 0 < n) (h2 : n < 32) : TCp Pg n_ref02_turn [wV w, .int .i64 n] (wV (rotr w n)) := by
  refine TCp.body k_ref02_turn hP rfl rfl rfl ?_
  simp [c_ref02_turn, r_ref02_turn, wV]
  have hw : IntKind.i64.wrap (32 - (n : Int)) = ((32 - n : Nat) : Int) := by rw [wrap_i64 (by omega) (by omega)]; omega
  rw [hw, u32_shr w n (by omega), u32_shl w (32 - n) (by omega), u32_or, rotr_eq w n h h2]
  exact ⟨by omega, rfl⟩

/-- A number of bytes, the greatest first. -/
def beNat (s : List UInt8) : Nat := s.foldl (fun v b => 256 * v + b.toNat) 0

theorem beNat_snoc (s : List UInt8) (b : UInt8) : beNat (s ++ [b]) = 256 * beNat s + b.toNat := by simp [beNat]

theorem beNat_aux : ∀ (s : List UInt8) (v : Nat), s.foldl (fun v b => 256 * v + b.toNat) v + 1 ≤ 256 ^ s.length * (v + 1)
  | [], v => by simp
  | b :: s, v => by
    have h1 := beNat_aux s (256 * v + b.toNat)
    have hb := b.toNat_lt
    have h2 : 256 ^ s.length * (256 * v + b.toNat + 1) ≤ 256 ^ s.length * (256 * (v + 1)) := Nat.mul_le_mul_left _ (by omega)
    simp only [List.foldl_cons, List.length_cons, Nat.pow_succ]
    rw [Nat.mul_assoc]
    exact Nat.le_trans h1 h2

theorem beNat_lt (s : List UInt8) : beNat s < 256 ^ s.length := by
  have := beNat_aux s 0
  unfold beNat
  omega

theorem f_ref01_Value (s : List UInt8) (hs : s.length ≤ 7) : TCp Pg n_ref01_Value [.str s] (.int .u64 (beNat s)) := by
  refine TCp.body k_ref01_Value hP rfl rfl rfl ?_
  simp [c_ref01_Value, r_ref01_Value]
  refine AW_wloop (fun k : Nat => [(0, .str s), (3, .int .u64 (beNat (s.take k))), (4, .int .i64 k)]) (fun _ => []) (fun k => k ≤ s.length) (fun k => s.length - k) 0 (Nat.zero_le _) (Weak.of_eq (by simp [beNat]) rfl) ?_
  intro k hk
  rcases Nat.lt_or_ge k s.length with h | h
  · obtain ⟨b, hb⟩ : ∃ b, s[k]? = some b := ⟨_, List.getElem?_eq_getElem h⟩
    have hk1 : IntKind.i64.wrap ((k : Int) + 1) = ((k + 1 : Nat) : Int) := by rw [wrap_i64 (by omega) (by omega)]; rfl
    have ht : s.take (k + 1) = s.take k ++ [b] := by rw [List.take_add_one, hb]; rfl
    have hb' : s[k] = b := by rw [List.getElem?_eq_getElem h] at hb; exact Option.some.inj hb
    simp [h, hk1, byteV]
    have h1 := beNat_lt (s.take k)
    have h2 : (s.take k).length = k := by rw [List.length_take]; omega
    have h3 : 256 ^ (s.take k).length ≤ 256 ^ 6 := Nat.pow_le_pow_right (by decide) (by omega)
    have h4 := b.toNat_lt
    refine ⟨k + 1, h, by omega, ?_, by omega⟩
    rw [ht, beNat_snoc, hb', wrap_u64 (n := 256 * _) (by omega) (by omega), wrap_u64 (n := (b.toNat : Int)) (by omega) (by omega), wrap_u64 (by omega) (by omega)]
    omega
  · have : k = s.length := by omega
    subst this
    simp
end Go.Abs
end

section
namespace Go.Abs
open Go
set_option maxRecDepth 20000

/-- The last k of a number's eight bytes. -/
def beLow (v : Nat) : Nat → List UInt8
  | 0 => []
  | k + 1 => b8 ((v / 256 ^ k : Nat) : Int) :: beLow v k

theorem beLow_length (v k : Nat) : (beLow v k).length = k := by
  induction k with
  | zero => rfl
  | succ k ih => simp [beLow, ih]

theorem shr_u64 (v n : Nat) (h : n < 64) : shr .u64 (v : Int) (n : Int) = ((v / 2 ^ n : Nat) : Int) := by
  unfold shr
  have : min (n : Int).toNat IntKind.u64.bits = n := by simp [IntKind.bits]; omega
  rw [this, Int.fdiv_eq_ediv_of_nonneg _ (by exact Int.le_of_lt (Int.pow_pos (by decide)))]
  norm_cast

theorem low_set (v : Nat) : ∀ j, j < 8 → (bytesV (List.replicate (8 - j) 0 ++ beLow v j)).set (7 - j) (byteV (b8 ((v / 256 ^ j : Nat) : Int))) = bytesV (List.replicate (7 - j) 0 ++ beLow v (j + 1)) := by
  intro j hj
  have hc : j = 0 ∨ j = 1 ∨ j = 2 ∨ j = 3 ∨ j = 4 ∨ j = 5 ∨ j = 6 ∨ j = 7 := by omega
  rcases hc with rfl | rfl | rfl | rfl | rfl | rfl | rfl | rfl <;> rfl

theorem low_get (v : Nat) (j : Nat) (hj : j < 8) : (bytesV (List.replicate (8 - j) 0 ++ beLow v j))[7 - j]? = some (byteV 0) := by
  have hc : j = 0 ∨ j = 1 ∨ j = 2 ∨ j = 3 ∨ j = 4 ∨ j = 5 ∨ j = 6 ∨ j = 7 := by omega
  rcases hc with rfl | rfl | rfl | rfl | rfl | rfl | rfl | rfl <;> rfl

theorem f_word_Number (v : Nat) (_hv : v < 18446744073709551616) : TCp Pg n_word_Number [.int .u64 v, .int .i64 8] (.tup [.str (beLow v 8), .bool true]) := by
  refine TCp.body k_word_Number hP rfl rfl rfl ?_
  simp [c_word_Number, r_word_Number]
  have h7 : IntKind.i64.wrap 7 = 7 := by decide
  rw [h7]
  refine AW_wloop (fun j : Nat => [(0, .int .u64 ((v / 256 ^ j : Nat) : Int)), (6, .arr 0 [] 0 8 1), (7, .int .i64 (7 - (j : Int)))]) (fun j => [.cell (.agg (bytesV (List.replicate (8 - j) 0 ++ beLow v j)))]) (fun j => j ≤ 8) (fun j => 8 - j) 0 (Nat.zero_le _) (Weak.of_eq (by simp) (by rfl)) ?_
  intro j hj
  have hs : shr .u64 ((v / 256 ^ j : Nat) : Int) 8 = ((v / 256 ^ j / 2 ^ 8 : Nat) : Int) := shr_u64 _ 8 (by decide)
  have hd : v / 256 ^ j / 2 ^ 8 = v / 256 ^ (j + 1) := by rw [Nat.div_div_eq_div_mul]; congr 1
  rw [hd] at hs
  rcases Nat.lt_or_ge j 8 with h | h
  · have hw : IntKind.i64.wrap (7 - (j : Int) - 1) = 7 - ((j + 1 : Nat) : Int) := by rw [wrap_i64 (by omega) (by omega)]; omega
    have h1 : (7 - (j : Int)).toNat = 7 - j := by omega
    have h2 := low_get v j h
    have h3 := low_set v j h
    have h4 : (j : Int) ≤ 7 := by omega
    revert hs h2 h3
    generalize bytesV (List.replicate (8 - j) 0 ++ beLow v j) = L
    generalize v / 256 ^ j = q
    intro hs h2 h3
    simp [hs, hw, h1, h2, h4, -Int.natCast_ediv]
    refine ⟨by omega, j + 1, h, by omega, ⟨rfl, by omega⟩, ?_⟩
    rw [byteV_wrap, h3, show 8 - (j + 1) = 7 - j by omega]
  · have : j = 8 := by omega
    subst this
    simp
    refine ⟨fun x hx => bytesV_isByte _ x (List.mem_of_mem_take hx), ?_⟩
    rw [List.take_of_length_le (by rw [beLow_length]; exact Nat.le_refl _)]
end Go.Abs
end

section
namespace Go.Abs
open Go
set_option maxRecDepth 20000

theorem f_ref01_Number (v : Nat) (hv : v < 18446744073709551616) : TCp Pg n_ref01_Number [.int .u64 v, .int .i64 8] (.tup [.str (beLow v 8), .bool true]) := by
  refine TCp.body k_ref01_Number hP rfl rfl rfl ?_
  simp [c_ref01_Number, r_ref01_Number]
  refine CallG.of (r := .int .u64 0) (by simp) ?_
  simp
  refine AW_wloop (fun j : Nat => [(0, .int .u64 ((v / 256 ^ j : Nat) : Int)), (1, .int .i64 8), (6, .str (beLow v j)), (7, .int .i64 j)]) (fun j => []) (fun j => j ≤ 8) (fun j => 8 - j) 0 (Nat.zero_le _) (Weak.of_eq (by simp [beLow]) (by rfl)) ?_
  intro j hj
  rcases Nat.lt_or_ge j 8 with h | h
  · have hw : IntKind.i64.wrap ((j : Int) + 1) = ((j + 1 : Nat) : Int) := by rw [wrap_i64 (by omega) (by omega)]; omega
    have hd : v / 256 ^ j / 256 = v / 256 ^ (j + 1) := by rw [Nat.div_div_eq_div_mul]; congr 1
    have hq : v / 256 ^ j < 18446744073709551616 := Nat.lt_of_le_of_lt (Nat.div_le_self _ _) hv
    have hl := beLow_length v j
    have hb : beLow v (j + 1) = b8 ((v / 256 ^ j : Nat) : Int) :: beLow v j := rfl
    revert hb hd hq
    generalize v / 256 ^ j = q
    intro hd hq hb
    have hw2 : IntKind.u64.wrap ((q : Int) / 256) = ((q / 256 : Nat) : Int) := by rw [wrap_u64 (by omega) (by omega)]; omega
    have hv1 : V.int .u8 (IntKind.u8.wrap ((q : Int).tmod 256)) = byteV (b8 (q : Int)) := by rw [byteV_wrap, b8_tmod (by omega)]
    have hby : ∀ b : UInt8, (byteV b).byte = b := fun b => by have := bytesV_byte [b]; simpa [bytesV] using this
    have hbi : ∀ b : UInt8, (byteV b).isByte = true := fun b => bytesV_isByte [b] _ (by simp [bytesV])
    simp [hw, hl, hw2, -Int.natCast_ediv]
    refine ⟨fun _ => ⟨by rw [hv1]; exact hbi _, by omega, j + 1, h, by omega, ?_, ?_, by omega⟩, fun _ => by omega⟩
    · first | exact congrArg _ hd | (rw [hd]) | (rw [hq])
    · rw [hv1, hby]; first | exact hb.symm | exact hq.symm
  · have : j = 8 := by omega
    subst this
    simp
end Go.Abs
end

section
namespace Go.Abs
open Go
set_option maxRecDepth 20000

/-- How many zero bytes a padding has. -/
def zeros (n : Nat) : Nat := (119 - n % 64) % 64

def padded (s : List UInt8) : List UInt8 := s ++ [128] ++ List.replicate (zeros s.length) 0 ++ beLow (s.length * 8) 8
end Go.Abs
end

section
namespace Go.Abs
open Go

mutual
theorem fzW_under (d : Nat → Bool) (H : HP) (F : Option (V → V)) : ∀ v : V, v.under 0 = true → fzW d H F v = v
  | .agg xs, h => by simp only [fzW]; rw [fzL_under d H F xs (by simpa only [V.under] using h)]
  | .sl sz xs tk, h => by
    simp only [V.under, Bool.and_eq_true] at h
    simp only [fzW]
    rw [fzL_under d H F xs h.1]
    cases tk with
    | row t => simp at h
    | _ => rfl
  | .arr .., h => by simp [V.under] at h
  | .ptr .., h => by simp [V.under] at h
  | .map _, h => by simp [V.under] at h
  | .box x, h => by simp only [fzW]; rw [fzW_under d H F x (by simpa only [V.under] using h)]
  | .mapv ks vs, h => by
    simp only [V.under, Bool.and_eq_true] at h
    simp only [fzW]
    rw [fzL_under d H F ks h.1, fzL_under d H F vs h.2]
  | .fn f a b, h => by
    simp only [V.under, Bool.and_eq_true] at h
    simp only [fzW]
    rw [fzL_under d H F a h.1, fzL_under d H F b h.2]
  | .tup vs, h => by simp only [fzW]; rw [fzL_under d H F vs (by simpa only [V.under] using h)]
  | .opt g v, h => by simp only [fzW]; rw [fzW_under d H F v (by simpa only [V.under] using h)]
  | .junk, _ | .int .., _ | .bool _, _ | .str _, _ | .nilp, _ | .nilmap, _ | .nilfn, _ => by simp [fzW]
theorem fzL_under (d : Nat → Bool) (H : HP) (F : Option (V → V)) : ∀ xs : List V, V.underL 0 xs = true → fzL d H F xs = xs
  | [], _ => rfl
  | x :: xs, h => by
    simp only [V.underL, Bool.and_eq_true] at h
    simp only [fzL]
    rw [fzW_under d H F x h.1, fzL_under d H F xs h.2]
end

theorem fz_under (d : Nat → Bool) (H : HP) (n : Nat) (v : V) (h : v.under 0 = true) : fz d H n v = v := by cases n <;> exact fzW_under _ _ _ v h

theorem underL_iff (m : Nat) (xs : List V) : V.underL m xs = true ↔ ∀ x ∈ xs, x.under m = true := by
  induction xs with
  | nil => simp [V.underL]
  | cons x xs ih => simp [V.underL, ih]

theorem vwL_eq (xs : List V) : V.vwL xs = xs.map V.vw := by
  induction xs with
  | nil => rfl
  | cons x xs ih => simp [V.vwL, ih]

/-- What holds of a whole and closed value. -/
structure Clo (v : V) : Prop where
  under : ∀ m, v.under m = true
  vw : v.vw = v
  plain : v.plain = true

theorem Clo.fzW {v : V} (h : Clo v) (d : Nat → Bool) (H : HP) (F : Option (V → V)) : Abs.fzW d H F v = v := fzW_under d H F v (h.under 0)
theorem Clo.fz {v : V} (h : Clo v) (d : Nat → Bool) (H : HP) (n : Nat) : Abs.fz d H n v = v := fz_under d H n v (h.under 0)
theorem Clo.un {v : V} (h : Clo v) : v.un = (true, v) := by
  have := h.plain
  cases v <;> first | rfl | cases this

theorem clo_list {α : Type} {f : α → V} (h : ∀ a, Clo (f a)) (l : List α) : (∀ m, V.underL m (l.map f) = true) ∧ V.vwL (l.map f) = l.map f ∧ ∀ d H F, fzL d H F (l.map f) = l.map f := by
  refine ⟨fun m => (underL_iff m _).2 fun x hx => ?_, ?_, fun d H F => fzL_under d H F _ ((underL_iff 0 _).2 fun x hx => ?_)⟩
  · obtain ⟨a, _, rfl⟩ := List.mem_map.1 hx; exact (h a).under m
  · rw [vwL_eq, List.map_map]
    exact List.map_congr_left fun a _ => (h a).vw
  · obtain ⟨a, _, rfl⟩ := List.mem_map.1 hx; exact (h a).under 0

theorem clo_sl {α : Type} {f : α → V} (h : ∀ a, Clo (f a)) (sz : Nat) (l : List α) : Clo (.sl sz (l.map f) .view) := by
  obtain ⟨h1, h2, _⟩ := clo_list h l
  refine ⟨fun m => by simp only [V.under, h1 m]; rfl, by simp [V.vw], rfl⟩

theorem clo_agg {xs : List V} (h : ∀ x ∈ xs, Clo x) : Clo (.agg xs) := by
  refine ⟨fun m => by simp only [V.under]; exact (underL_iff m xs).2 fun x hx => (h x hx).under m, ?_, rfl⟩
  simp only [V.vw, vwL_eq]
  rw [List.map_congr_left (g := id) fun x hx => (h x hx).vw, List.map_id]

theorem clo_int (k : IntKind) (n : Int) : Clo (.int k n) := ⟨fun _ => rfl, rfl, rfl⟩
theorem clo_bool (b : Bool) : Clo (.bool b) := ⟨fun _ => rfl, rfl, rfl⟩
theorem clo_str (s : List UInt8) : Clo (.str s) := ⟨fun _ => rfl, rfl, rfl⟩

abbrev Bs := List UInt8

def strV (s : Bs) : V := .str s
theorem clo_strV (s : Bs) : Clo (strV s) := clo_str s

/-- An id. -/
def idV (a : Bs) : V := .agg (bytesV a)
theorem clo_id (a : Bs) : Clo (idV a) := clo_agg fun x hx => by
  obtain ⟨b, _, rfl⟩ := List.mem_map.1 hx
  exact clo_int _ _

structure POp where
  kind : Int
  path : Bs
  dest : Bs
  at_ : Int
  old : List Bs
  new : List Bs
  key : Bs
  depth : Int

def popV (o : POp) : V := .agg [.int .i64 o.kind, .str o.path, .str o.dest, .int .i64 o.at_, .sl 1 (o.old.map strV) .view, .sl 1 (o.new.map strV) .view, idV o.key, .int .i64 o.depth]
theorem clo_op (o : POp) : Clo (popV o) := clo_agg fun x hx => by
  simp only [List.mem_cons, List.not_mem_nil, or_false] at hx
  rcases hx with rfl | rfl | rfl | rfl | rfl | rfl | rfl | rfl
  · exact clo_int _ _
  · exact clo_str _
  · exact clo_str _
  · exact clo_int _ _
  · exact clo_sl clo_strV _ _
  · exact clo_sl clo_strV _ _
  · exact clo_id _
  · exact clo_int _ _

structure Sig where
  leaf : Int
  shown : List Bs
  hidden : List Bs
  way : List Bs

def sigV (x : Sig) : V := .agg [.int .i64 x.leaf, .sl 32 (x.shown.map idV) .view, .sl 32 (x.hidden.map idV) .view, .sl 32 (x.way.map idV) .view]
theorem clo_sig (x : Sig) : Clo (sigV x) := clo_agg fun y hy => by
  simp only [List.mem_cons, List.not_mem_nil, or_false] at hy
  rcases hy with rfl | rfl | rfl | rfl
  · exact clo_int _ _
  · exact clo_sl clo_id _ _
  · exact clo_sl clo_id _ _
  · exact clo_sl clo_id _ _

structure Patch where
  deps : List Bs
  key : Bs
  note : Bs
  ops : List POp
  sign : Sig

def patchV (p : Patch) : V := .agg [.sl 32 (p.deps.map idV) .view, idV p.key, .str p.note, .sl 39 (p.ops.map popV) .view, sigV p.sign]
theorem clo_patch (p : Patch) : Clo (patchV p) := clo_agg fun y hy => by
  simp only [List.mem_cons, List.not_mem_nil, or_false] at hy
  rcases hy with rfl | rfl | rfl | rfl | rfl
  · exact clo_sl clo_id _ _
  · exact clo_id _
  · exact clo_str _
  · exact clo_sl clo_op _ _
  · exact clo_sig _

section
variable (d : Nat → Bool) (H : HP) (F : Option (V → V)) (m : Nat)
@[simp] theorem id_comp : fzW d H F ∘ idV = idV := funext fun a => (clo_id a).fzW d H F
@[simp] theorem str_comp : fzW d H F ∘ strV = strV := funext fun a => (clo_strV a).fzW d H F
@[simp] theorem op_comp : fzW d H F ∘ popV = popV := funext fun a => (clo_op a).fzW d H F
@[simp] theorem patch_comp : fzW d H F ∘ patchV = patchV := funext fun a => (clo_patch a).fzW d H F
@[simp] theorem id_compz (n : Nat) : fz d H n ∘ idV = idV := funext fun a => (clo_id a).fz d H n
@[simp] theorem str_compz (n : Nat) : fz d H n ∘ strV = strV := funext fun a => (clo_strV a).fz d H n
@[simp] theorem op_compz (n : Nat) : fz d H n ∘ popV = popV := funext fun a => (clo_op a).fz d H n
@[simp] theorem patch_compz (n : Nat) : fz d H n ∘ patchV = patchV := funext fun a => (clo_patch a).fz d H n
@[simp] theorem id_fzW (a : Bs) : fzW d H F (idV a) = idV a := (clo_id a).fzW d H F
@[simp] theorem id_vw (a : Bs) : (idV a).vw = idV a := (clo_id a).vw
@[simp high] theorem id_under (a : Bs) : (idV a).under m = true := (clo_id a).under m
@[simp high] theorem id_un (a : Bs) : (idV a).un = (true, idV a) := (clo_id a).un
@[simp high] theorem id_plain (a : Bs) : (idV a).plain = true := rfl
@[simp] theorem ids_fzL (l : List Bs) : fzL d H F (l.map idV) = l.map idV := (clo_list clo_id l).2.2 d H F
@[simp] theorem ids_vwL (l : List Bs) : V.vwL (l.map idV) = l.map idV := (clo_list clo_id l).2.1
@[simp] theorem ids_underL (l : List Bs) : V.underL m (l.map idV) = true := (clo_list clo_id l).1 m
@[simp] theorem strs_fzL (l : List Bs) : fzL d H F (l.map strV) = l.map strV := (clo_list clo_strV l).2.2 d H F
@[simp] theorem strs_vwL (l : List Bs) : V.vwL (l.map strV) = l.map strV := (clo_list clo_strV l).2.1
@[simp] theorem strs_underL (l : List Bs) : V.underL m (l.map strV) = true := (clo_list clo_strV l).1 m
@[simp] theorem ops_fzL (l : List POp) : fzL d H F (l.map popV) = l.map popV := (clo_list clo_op l).2.2 d H F
@[simp] theorem ops_vwL (l : List POp) : V.vwL (l.map popV) = l.map popV := (clo_list clo_op l).2.1
@[simp] theorem ops_underL (l : List POp) : V.underL m (l.map popV) = true := (clo_list clo_op l).1 m
@[simp] theorem op_fzW (o : POp) : fzW d H F (popV o) = popV o := (clo_op o).fzW d H F
@[simp] theorem op_vw (o : POp) : (popV o).vw = popV o := (clo_op o).vw
@[simp] theorem op_under (o : POp) : (popV o).under m = true := (clo_op o).under m
@[simp] theorem patch_fzW (p : Patch) : fzW d H F (patchV p) = patchV p := (clo_patch p).fzW d H F
@[simp] theorem patch_vw (p : Patch) : (patchV p).vw = patchV p := (clo_patch p).vw
@[simp] theorem patch_under (p : Patch) : (patchV p).under m = true := (clo_patch p).under m
@[simp] theorem patches_fzL (l : List Patch) : fzL d H F (l.map patchV) = l.map patchV := (clo_list clo_patch l).2.2 d H F
@[simp] theorem patches_vwL (l : List Patch) : V.vwL (l.map patchV) = l.map patchV := (clo_list clo_patch l).2.1
@[simp] theorem patches_underL (l : List Patch) : V.underL m (l.map patchV) = true := (clo_list clo_patch l).1 m
end

@[simp] theorem id_isAgg (a : Bs) : isAggV (idV a) = true := rfl
@[simp] theorem op_isAgg (a : POp) : isAggV (popV a) = true := rfl
@[simp] theorem patch_isAgg (a : Patch) : isAggV (patchV a) = true := rfl
@[simp] theorem byteV_un (b : UInt8) : (byteV b).un = (true, byteV b) := rfl
@[simp] theorem byteV_isAgg (b : UInt8) : isAggV (byteV b) = false := rfl
@[simp] theorem byteV_vw (b : UInt8) : (byteV b).vw = byteV b := rfl
@[simp] theorem strV_un (b : Bs) : (strV b).un = (true, strV b) := rfl
@[simp] theorem strV_isAgg (b : Bs) : isAggV (strV b) = false := rfl
@[simp] theorem strV_plain (b : Bs) : (strV b).plain = true := rfl
@[simp] theorem strV_shape (b : Bs) : (strV b).shape = .one := rfl
@[simp] theorem wV_un (b : UInt32) : (wV b).un = (true, wV b) := rfl
@[simp] theorem wV_isAgg (b : UInt32) : isAggV (wV b) = false := rfl
theorem bytesV_shapeL (a : Bs) : V.shapeL (bytesV a) = List.replicate a.length .one := by
  induction a with
  | nil => rfl
  | cons b a ih => rw [← bytesV_cons]; simp only [V.shapeL, ih, List.length_cons, List.replicate_succ]; rfl
theorem id_shape {a : Bs} (h : a.length = 32) : (idV a).shape = .agg (List.replicate 32 .one) := by
  show Sh.agg (V.shapeL (bytesV a)) = _
  rw [bytesV_shapeL, h]
@[simp high] theorem op_un (o : POp) : (popV o).un = (true, popV o) := (clo_op o).un
@[simp high] theorem op_plain (o : POp) : (popV o).plain = true := rfl
@[simp high] theorem patch_un (o : Patch) : (patchV o).un = (true, patchV o) := (clo_patch o).un
@[simp high] theorem patch_plain (o : Patch) : (patchV o).plain = true := rfl
end Go.Abs
end

section
namespace Go.Abs
open Go
set_option maxRecDepth 20000

@[simp] theorem toNat_add_lit (n m : Nat) : ((n : Int) + (no_index (OfNat.ofNat m) : Int)).toNat = n + OfNat.ofNat m := by
  have : ((no_index (OfNat.ofNat m) : Int)) = ((OfNat.ofNat m : Nat) : Int) := rfl
  rw [this, ← Int.natCast_add, Int.toNat_natCast]
@[simp] theorem toNat_lit_add (n m : Nat) : ((no_index (OfNat.ofNat m) : Int) + (n : Int)).toNat = OfNat.ofNat m + n := by
  have : ((no_index (OfNat.ofNat m) : Int)) = ((OfNat.ofNat m : Nat) : Int) := rfl
  rw [this, ← Int.natCast_add, Int.toNat_natCast]

/-- A word as a whole number. -/
def wI (w : UInt32) : Int := (w.toNat : Int)
theorem wV_eq (w : UInt32) : wV w = .int .u32 (wI w) := rfl
@[simp] theorem wI_and (a b : UInt32) : ibits .and .u32 (wI a) (wI b) = wI (a &&& b) := u32_and a b
@[simp] theorem wI_or (a b : UInt32) : ibits .or .u32 (wI a) (wI b) = wI (a ||| b) := u32_or a b
@[simp] theorem wI_xor (a b : UInt32) : ibits .xor .u32 (wI a) (wI b) = wI (a ^^^ b) := u32_xor a b
@[simp] theorem wI_add (a b : UInt32) : IntKind.u32.wrap (wI a + wI b) = wI (a + b) := u32_add a b
@[simp] theorem wI_sub (a b : UInt32) : IntKind.u32.wrap (wI a - wI b) = wI (a - b) := u32_sub a b
@[simp] theorem wI_shr3 (a : UInt32) : shr .u32 (wI a) 3 = wI (a >>> 3) := u32_shr a 3 (by omega)
@[simp] theorem wI_shr10 (a : UInt32) : shr .u32 (wI a) 10 = wI (a >>> 10) := u32_shr a 10 (by omega)
@[simp] theorem wI_shl8 (a : UInt32) : shl .u32 (wI a) 8 = wI (a <<< 8) := u32_shl a 8 (by omega)
@[simp] theorem wI_not (a : UInt32) : ibits .xor .u32 4294967295 (wI a) = wI (~~~a) := u32_not a
@[simp] theorem wI_not' (a : UInt32) : ibits .xor .u32 (-1) (wI a) = wI (~~~a) := u32_not a

theorem fz_arr {H : HP} {t : Nat} {p : List Nat} {v : V} {xs : List V} {off len sz : Nat} (hH : H[t]? = some (.cell v)) (hv : v.at p = some (.agg xs)) (hx : V.underL 0 xs = true) : fz (fun _ => true) H 8 (.arr t p off len sz) = .sl sz ((xs.drop off).take len) .view := by
  simp only [fz, fzW, hH, hv, if_true]
  congr 1
  conv => rhs; rw [← List.map_id ((xs.drop off).take len)]
  exact List.map_congr_left fun x h => fzW_under _ _ _ x ((underL_iff 0 xs).1 hx x (List.mem_of_mem_drop (List.mem_of_mem_take h)))

structure S8 where
  a : UInt32
  b : UInt32
  c : UInt32
  d : UInt32
  e : UInt32
  f : UInt32
  g : UInt32
  h : UInt32

def S8.l (v : S8) : List UInt32 := [v.a, v.b, v.c, v.d, v.e, v.f, v.g, v.h]
def S8.V (v : S8) : V := .agg [wV v.a, wV v.b, wV v.c, wV v.d, wV v.e, wV v.f, wV v.g, wV v.h]

def h0 : S8 := ⟨1779033703, 3144134277, 1013904242, 2773480762, 1359893119, 2600822924, 528734635, 1541459225⟩
def K64 : List UInt32 := [1116352408, 1899447441, 3049323471, 3921009573, 961987163, 1508970993, 2453635748, 2870763221, 3624381080, 310598401, 607225278, 1426881987, 1925078388, 2162078206, 2614888103, 3248222580, 3835390401, 4022224774, 264347078, 604807628, 770255983, 1249150122, 1555081692, 1996064986, 2554220882, 2821834349, 2952996808, 3210313671, 3336571891, 3584528711, 113926993, 338241895, 666307205, 773529912, 1294757372, 1396182291, 1695183700, 1986661051, 2177026350, 2456956037, 2730485921, 2820302411, 3259730800, 3345764771, 3516065817, 3600352804, 4094571909, 275423344, 430227734, 506948616, 659060556, 883997877, 958139571, 1322822218, 1537002063, 1747873779, 1955562222, 2024104815, 2227730452, 2361852424, 2428436474, 2756734187, 3204031479, 3329325298]

/-- A word of a block. -/
def wordAt (s : Bs) (i : Nat) : UInt32 := UInt32.ofNat (beNat ((s.drop (4 * i)).take 4))
/-- The first n words. -/
def words (s : Bs) (n : Nat) : List UInt32 := (List.range n).map (wordAt s)

def getW (l : List UInt32) (i : Nat) : UInt32 := l.getD i 0
def sig0 (w : UInt32) : UInt32 := rotr w 7 ^^^ rotr w 18 ^^^ w >>> 3
def sig1 (w : UInt32) : UInt32 := rotr w 17 ^^^ rotr w 19 ^^^ w >>> 10
def nextW (l : List UInt32) : UInt32 := getW l (l.length - 16) + sig0 (getW l (l.length - 15)) + getW l (l.length - 7) + sig1 (getW l (l.length - 2))
/-- A block's words, with n more. -/
def sched (s : Bs) : Nat → List UInt32
  | 0 => words s 16
  | n + 1 => sched s n ++ [nextW (sched s n)]

theorem words_length (s : Bs) (n : Nat) : (words s n).length = n := by simp [words]
theorem sched_length (s : Bs) (n : Nat) : (sched s n).length = 16 + n := by
  induction n with
  | zero => exact words_length s 16
  | succ n ih => simp [sched, ih]; omega

def big1 (e : UInt32) : UInt32 := rotr e 6 ^^^ rotr e 11 ^^^ rotr e 25
def big0 (a : UInt32) : UInt32 := rotr a 2 ^^^ rotr a 13 ^^^ rotr a 22
def chW (e f g : UInt32) : UInt32 := (e &&& f) ^^^ (~~~e &&& g)
def majW (a b c : UInt32) : UInt32 := (a &&& b) ^^^ (a &&& c) ^^^ (b &&& c)
def rnd (v : S8) (k w : UInt32) : S8 :=
  let x := v.h + big1 v.e + chW v.e v.f v.g + k + w
  let y := big0 v.a + majW v.a v.b v.c
  ⟨x + y, v.a, v.b, v.c, v.d + x, v.e, v.f, v.g⟩
def rnds (s : Bs) (v : S8) : Nat → S8
  | 0 => v
  | n + 1 => rnd (rnds s v n) (getW K64 n) (getW (sched s 48) n)
def S8.plus (v w : S8) : S8 := ⟨v.a + w.a, v.b + w.b, v.c + w.c, v.d + w.d, v.e + w.e, v.f + w.f, v.g + w.g, v.h + w.h⟩
/-- A block, taken in. -/
def addB (v : S8) (s : Bs) : S8 := v.plus (rnds s v 64)
/-- The first n blocks, taken in. -/
def blocks (v : S8) : Nat → Bs → S8
  | 0, _ => v
  | n + 1, s => blocks (addB v (s.take 64)) n (s.drop 64)
def sha (s : Bs) : Bs := (blocks h0 ((padded s).length / 64) (padded s)).l.flatMap be4

theorem f_sha_three (w : UInt32) (a b : Nat) (last : UInt32) (ha : a ≤ 64) (hb : b ≤ 64) : TCp Pg n_sha_three [wV w, .int .i64 a, .int .i64 b, wV last] (wV (rotr w a ^^^ rotr w b ^^^ last)) := by
  refine TCp.body k_sha_three hP rfl rfl rfl ?_
  simp [c_sha_three, r_sha_three, wV_eq]
  refine CallB.p (f_word_Right w a ha) ?_
  simp
  refine CallB.p (f_word_Right w b hb) ?_
  simp [wV_eq]

theorem f_sha_begin : TCp Pg n_sha_begin [] h0.V := by
  refine TCp.body k_sha_begin hP rfl rfl rfl ?_
  simp [c_sha_begin, r_sha_begin]
  rfl

theorem f_sha_constants : TCp Pg n_sha_constants [] (.agg (K64.map wV)) := by
  refine TCp.body k_sha_constants hP rfl rfl rfl ?_
  simp [c_sha_constants, r_sha_constants]
  rfl
end Go.Abs
end

section
namespace Go.Abs
open Go
set_option maxRecDepth 20000

theorem wI_byte (n : Nat) (b : UInt8) (hn : n < 16777216) : ibits .or .u32 (wI (UInt32.ofNat n <<< 8)) (IntKind.u32.wrap (b.toNat : Int)) = wI (UInt32.ofNat (256 * n + b.toNat)) := by
  have hb := b.toNat_lt
  have h1 : IntKind.u32.wrap (b.toNat : Int) = wI (UInt32.ofNat b.toNat) := by
    unfold wI
    rw [wrap_u32, UInt32.toNat_ofNat']
    omega
  rw [h1, wI_or]
  congr 1
  apply UInt32.toNat.inj
  rw [UInt32.toNat_or, UInt32.toNat_shiftLeft, UInt32.toNat_ofNat', UInt32.toNat_ofNat', UInt32.toNat_ofNat', Nat.mod_eq_of_lt (a := n) (by omega), Nat.mod_eq_of_lt (a := b.toNat) (by omega)]
  have h8 : (8 : UInt32).toNat % 32 = 8 := rfl
  rw [h8, Nat.mod_eq_of_lt (a := n <<< 8) (by rw [Nat.shiftLeft_eq]; omega), ← Nat.shiftLeft_add_eq_or_of_lt (i := 8) (by omega), Nat.shiftLeft_eq, Nat.mod_eq_of_lt (by omega)]
  omega

theorem take_snoc {α : Type} (l : List α) (k : Nat) (h : k < l.length) : l.take (k + 1) = l.take k ++ [l[k]] := by rw [List.take_add_one, List.getElem?_eq_getElem h]; rfl

theorem i64_of (n : Nat) (h : n < 9223372036854775808) : IntKind.i64.wrap (n : Int) = n := wrap_i64 (by omega) (by omega)
theorem i64_succ (n : Nat) (h : n + 1 < 9223372036854775808) : IntKind.i64.wrap ((n : Int) + 1) = ((n + 1 : Nat) : Int) := by rw [wrap_i64 (by omega) (by omega)]; rfl

@[simp] theorem wordsV_vwL (l : List UInt32) : V.vwL (l.map wV) = l.map wV := by
  induction l with
  | nil => rfl
  | cons w l ih => simp only [List.map_cons, V.vwL, ih]; rfl
@[simp] theorem wordsV_fzL (d : Nat → Bool) (H : HP) (F : Option (V → V)) (l : List UInt32) : fzL d H F (l.map wV) = l.map wV := by
  induction l with
  | nil => rfl
  | cons w l ih => simp only [List.map_cons, fzL, ih]; rfl
@[simp] theorem wV_plain (w : UInt32) : (wV w).plain = true := rfl
@[simp] theorem wV_shape (w : UInt32) : (wV w).shape = .one := rfl

theorem words_succ (s : Bs) (n : Nat) : words s (n + 1) = words s n ++ [wordAt s n] := by simp [words, List.range_succ]

theorem f_word_Words (s : Bs) (hs : s.length = 64) : TCp Pg n_word_Words [.str s] (.tup [.sl 1 ((words s 16).map wV) .view, .int .i64 0]) := by
  refine TCp.bodyV k_word_Words hP rfl rfl (by simp [V.under, V.underL]) ?_
  simp [c_word_Words, r_word_Words, hs]
  refine AW_wloop (fun k : Nat => [(0, .str s), (4, .sl 1 ((words s k).map wV) (.row 0)), (14, .int .i64 16), (15, .int .i64 k)]) (fun k => [.row k 1]) (fun k => k ≤ 16) (fun k => 16 - k) 0 (Nat.zero_le _) (Weak.open 4 1 rfl) ?_
  intro k hk
  rcases Nat.lt_or_ge k 16 with h | h
  · have hk1 := i64_succ k (by omega)
    have hkk : ((k : Int) < 16) := by omega
    simp [hkk]
    refine AW_wloop (fun j : Nat => [(0, .str s), (4, .sl 1 ((words s k).map wV) (.row 0)), (5, .int .i64 k), (6, .int .u32 (wI (UInt32.ofNat (beNat ((s.drop (4 * k)).take j))))), (14, .int .i64 16), (15, .int .i64 k), (18, .int .i64 j)])
      (fun j => [.row k 1]) (fun j => j ≤ 4) (fun j => 4 - j) 0 (Nat.zero_le _) (Weak.of_eq (by simp; rfl) rfl) ?_
    intro j hj
    rcases Nat.lt_or_ge j 4 with h' | h'
    · have hj1 := i64_succ j (by omega)
      have hjj : ((j : Int) < 4) := by omega
      have hw : IntKind.i64.wrap (IntKind.i64.wrap (4 * (k : Int)) + (j : Int)) = ((4 * k + j : Nat) : Int) := by rw [wrap_i64 (n := 4 * (k : Int)) (by omega) (by omega), wrap_i64 (by omega) (by omega)]; omega
      have hlt : 4 * k + j < s.length := by omega
      have hd : j < (s.drop (4 * k)).length := by rw [List.length_drop]; omega
      have hget : (s.drop (4 * k))[j] = s[4 * k + j] := by simp
      have hb := beNat_lt ((s.drop (4 * k)).take j)
      have hl : ((s.drop (4 * k)).take j).length ≤ 3 := by rw [List.length_take]; omega
      have hb3 : 256 ^ ((s.drop (4 * k)).take j).length ≤ 256 ^ 3 := Nat.pow_le_pow_right (by decide) hl
      have hn : (4 * (k : Int) + j).toNat = 4 * k + j := by omega
      simp [hjj, hj1, hw, hlt, hn, byteV]
      refine ⟨by omega, j + 1, h', by omega, ?_, by omega⟩
      rw [take_snoc _ _ hd, beNat_snoc, hget, wI_byte _ _ (by omega)]
    · have : j = 4 := by omega
      subst this
      simp [hk1, words_length]
      refine ⟨by omega, k + 1, h, by omega, ⟨?_, by omega⟩⟩
      rw [words_succ]; simp; rfl
  · have : k = 16 := by omega
    subst this
    simp
end Go.Abs
end
