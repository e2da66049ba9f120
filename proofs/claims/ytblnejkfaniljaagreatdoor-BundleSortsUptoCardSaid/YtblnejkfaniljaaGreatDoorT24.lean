/-
  A block taken in: contract. Bytes taken in: contracts. The library's functions as the program bears them, by program. The library's functions: contracts. The sum of a text by the program: contracts. The sum of a text by the document: contracts.
  Conditions: those that stand ahead of each theorem; no more.
-/
import Derived.Shelf.Strings.Search3
import Derived.Shelf.Strings.Repeat
import Derived.Test.YtblnejkfaniljaaGreatDoorT15
import Derived.Test.YtblnejkfaniljaaGreatDoorT16
import Derived.Test.YtblnejkfaniljaaGreatDoorT23

section
namespace Go.Abs
open Go
set_option maxRecDepth 20000

/-- The words so far, and zeros. -/
def W64 (s : Bs) (k : Nat) : List UInt32 := sched s k ++ List.replicate (48 - k) 0
theorem W64_length (s : Bs) (k : Nat) (h : k ≤ 48) : (W64 s k).length = 64 := by simp [W64, sched_length]; omega
theorem W64_get (s : Bs) (k i : Nat) (h : i < 16 + k) : (W64 s k)[i]? = some (getW (sched s k) i) := by
  have : i < (sched s k).length := by rw [sched_length]; exact h
  simp [W64, getW, List.getElem?_append_left this, List.getD_eq_getElem?_getD, List.getElem?_eq_getElem this]
theorem W64_set (s : Bs) (k : Nat) (h : k < 48) : (W64 s k).set (16 + k) (nextW (sched s k)) = W64 s (k + 1) := by
  have hl := sched_length s k
  obtain ⟨m, hm⟩ : ∃ m, 48 - k = m + 1 := ⟨47 - k, by omega⟩
  have hm' : 48 - (k + 1) = m := by omega
  unfold W64
  rw [hm, hm', List.set_append_right _ _ (by omega), hl, Nat.sub_self]
  simp [sched, List.replicate_succ]
theorem W64_get64 (s : Bs) (i : Nat) (h : i < 64) : (W64 s 48)[i]? = some (getW (sched s 48) i) := W64_get s 48 i (by omega)
theorem map_getElem? (l : List UInt32) (i : Nat) : (l.map wV)[i]? = (l[i]?).map wV := by simp

theorem u32_ones : (if IntKind.u32.signed = true then (-1 : Int) else IntKind.u32.max) = 4294967295 := rfl

theorem set_same {α : Type} {l : List α} {t : Nat} {b : α} (h : l[t]? = some b) : l.set t b = l := by
  obtain ⟨h1, rfl⟩ := List.getElem?_eq_some_iff.1 h
  exact List.set_getElem_self h1

/-- The first k words, with others added. -/
def mixW (a b : List UInt32) (k : Nat) : List UInt32 := (List.zipWith (· + ·) a b).take k ++ a.drop k
theorem mixW_get (v u : S8) (k : Nat) (h : k < 8) : (mixW v.l u.l k)[k]? = some (getW v.l k) ∧ u.l[k]? = some (getW u.l k) ∧ (mixW v.l u.l k).set k (getW v.l k + getW u.l k) = mixW v.l u.l (k + 1) := by
  have hc : k = 0 ∨ k = 1 ∨ k = 2 ∨ k = 3 ∨ k = 4 ∨ k = 5 ∨ k = 6 ∨ k = 7 := by omega
  rcases hc with rfl | rfl | rfl | rfl | rfl | rfl | rfl | rfl <;> exact ⟨rfl, rfl, rfl⟩
theorem mixW_length (v u : S8) (k : Nat) (h : k ≤ 8) : (mixW v.l u.l k).length = 8 := by
  have hc : k = 0 ∨ k = 1 ∨ k = 2 ∨ k = 3 ∨ k = 4 ∨ k = 5 ∨ k = 6 ∨ k = 7 ∨ k = 8 := by omega
  rcases hc with rfl | rfl | rfl | rfl | rfl | rfl | rfl | rfl | rfl <;> rfl
theorem S8.V_eq (v : S8) : v.V = .agg (v.l.map wV) := rfl

theorem shapes16 (s : Bs) : ∀ i, i < min (words s 16).length 64 → Option.map (V.shape ∘ wV) (words s 16)[i]? = (List.replicate 64 Sh.one)[i]? := by
  intro i hi
  rw [words_length] at hi
  have h1 : i < (words s 16).length := by rw [words_length]; omega
  rw [List.getElem?_eq_getElem h1, List.getElem?_replicate, if_pos (by omega)]
  rfl

set_option maxHeartbeats 4000000 in
theorem f_sha_state_add {H : HP} {t : Nat} (v : S8) (x y : V) (s : Bs) (hs : s.length = 64) (hH : H[t]? = some (.cell (.agg [v.V, x, y]))) :
    TC Pg n_sha_state_add [.ptr t [0], .str s] H fun r H' => r = .tup [] ∧ H' = H.set t (.cell (.agg [(addB v s).V, x, y])) := by
  have ht : t < H.length := (List.getElem?_eq_some_iff.1 hH).1
  refine TC.under fun hU => TC.bodyS k_sha_state_add hP rfl ?_
  simp [c_sha_state_add, r_sha_state_add]
  refine CallB.p (f_word_Words s hs) ?_
  simp
  refine ⟨shapes16 s, ?_⟩
  refine AW_wloop (fun k : Nat => [(0, .ptr t [0]), (4, .ptr H.length []), (7, .int .i64 ((16 + k : Nat) : Int))]) (fun k => H ++ [.cell (.agg ((W64 s k).map wV))]) (fun k => k ≤ 48) (fun k => 48 - k) 0 (Nat.zero_le _) (Weak.of_eq (by simp) (by simp [W64, sched, words_length]; rfl)) ?_
  intro k hk
  rcases Nat.lt_or_ge k 48 with h | h
  · have e15 : IntKind.i64.wrap (16 + (k : Int) - 15) = ((k + 1 : Nat) : Int) := by rw [wrap_i64 (by omega) (by omega)]; omega
    have e2 : IntKind.i64.wrap (16 + (k : Int) - 2) = ((k + 14 : Nat) : Int) := by rw [wrap_i64 (by omega) (by omega)]; omega
    have e16 : IntKind.i64.wrap (16 + (k : Int) - 16) = ((k : Nat) : Int) := by rw [wrap_i64 (by omega) (by omega)]; omega
    have e7 : IntKind.i64.wrap (16 + (k : Int) - 7) = ((k + 9 : Nat) : Int) := by rw [wrap_i64 (by omega) (by omega)]; omega
    have e1 : IntKind.i64.wrap (16 + (k : Int) + 1) = 16 + ((k + 1 : Nat) : Int) := by rw [wrap_i64 (by omega) (by omega)]; omega
    have hkk : (16 + (k : Int) < 64) := by omega
    have hn : (16 + (k : Int)).toNat = 16 + k := by omega
    have g15 := W64_get s k (k + 1) (by omega)
    have g2 := W64_get s k (k + 14) (by omega)
    have g16 := W64_get s k k (by omega)
    have g7 := W64_get s k (k + 9) (by omega)
    have hl := W64_length s k hk
    have hset := W64_set s k h
    have g0 : (W64 s k)[16 + k]? = some 0 := by unfold W64; rw [List.getElem?_append_right (by rw [sched_length]; omega), sched_length, Nat.sub_self]; simp [List.getElem?_replicate]; omega
    obtain ⟨L, hL⟩ : ∃ L, W64 s k = L := ⟨_, rfl⟩
    rw [hL] at g0 g15 g2 g16 g7 hl hset ⊢
    simp [hkk, e15, e2, e16, hl, g15, g2, g16, wV_eq]
    refine ⟨by omega, by omega, by omega, CallQ.of (f_sha_three _ 7 18 _ (by omega) (by omega)) ?_⟩
    simp [e7, hl, g7, wV_eq]
    refine ⟨by omega, CallQ.of (f_sha_three _ 17 19 _ (by omega) (by omega)) ?_⟩
    simp [hkk, hn, e1, hl, g0, wV_eq]
    refine ⟨by omega, k + 1, by omega, by omega, by omega, ?_⟩
    rw [← hset]
    have q1 : 16 + k - 15 = k + 1 := by omega
    have q2 : 16 + k - 2 = k + 14 := by omega
    have q3 : 16 + k - 7 = k + 9 := by omega
    simp [nextW, sched_length, sig0, sig1, wV_eq, q1, q2, q3]
  · have : k = 48 := by omega
    subst this
    simp [hH, List.getElem?_append_left ht, S8.V, wV_eq]
    refine CallB.p f_sha_constants ?_
    simp
    refine AW_wloop (fun k : Nat => [(0, .ptr t [0]), (4, .ptr H.length []), (10, .ptr (H.length + 1) []), (62, .agg (K64.map wV)), (63, .int .i64 k)]) (fun k => H ++ [.cell (.agg ((W64 s 48).map wV)), .cell (rnds s v k).V]) (fun k => k ≤ 64) (fun k => 64 - k) 0 (Nat.zero_le _) (Weak.of_eq (by simp) (by simp [rnds, S8.V, wV_eq])) ?_
    intro k hk
    have hl := W64_length s 48 (by omega)
    rcases Nat.lt_or_ge k 64 with h | h
    · have hk1 := i64_succ k (by omega)
      have hkk : ((k : Int) < 64) := by omega
      have gw := W64_get64 s k h
      have gk : K64[k]? = some (getW K64 k) := by unfold getW; rw [List.getD_eq_getElem?_getD, List.getElem?_eq_getElem (show k < K64.length from h)]; rfl
      have hkl : K64.length = 64 := rfl
      have hr : rnds s v (k + 1) = rnd (rnds s v k) (getW K64 k) (getW (sched s 48) k) := rfl
      generalize W64 s 48 = L at hl gw
      generalize getW K64 k = kk at gk hr
      generalize K64 = KL at gk hkl
      generalize getW (sched s 48) k = ww at gw hr
      generalize rnds s v k = u at hr
      obtain ⟨a, b, c, d, e, f, g, i⟩ := u
      simp [hkk, gk, hkl, S8.V, wV_eq]
      refine CallQ.of (f_word_Right e 25 (by omega)) ?_
      simp [wV_eq]
      refine CallQ.of (f_sha_three e 6 11 _ (by omega) (by omega)) ?_
      simp [hkk, gw, hl, wV_eq]
      refine CallQ.of (f_word_Right a 22 (by omega)) ?_
      simp [wV_eq]
      refine CallQ.of (f_sha_three a 2 13 _ (by omega) (by omega)) ?_
      simp [hk1, wV_eq, u32_ones]
      refine ⟨k + 1, by omega, by omega, rfl, ?_⟩
      rw [hr]
      simp [rnd, big1, big0, chW, majW]
    · have : k = 64 := by omega
      subst this
      simp
      have hu : rnds s v 64 = rnds s v 64 := rfl
      have hadd : addB v s = v.plus (rnds s v 64) := rfl
      generalize W64 s 48 = L at hl
      rw [hadd]
      generalize rnds s v 64 = u
      refine AW_wloop (fun k : Nat => [(0, .ptr t [0]), (10, .ptr (H.length + 1) []), (136, .int .i64 k)]) (fun k => H.set t (.cell (.agg [.agg ((mixW v.l u.l k).map wV), x, y])) ++ [.cell (.agg (L.map wV)), .cell u.V]) (fun k => k ≤ 8) (fun k => 8 - k) 0 (Nat.zero_le _)
        (Weak.of_eq (by simp) (by simp [mixW]; exact (set_same hH).symm)) ?_
      intro k hk
      have hml := mixW_length v u k hk
      rcases Nat.lt_or_ge k 8 with h | h
      · have hk1 := i64_succ k (by omega)
        have hkk : ((k : Int) < 8) := by omega
        obtain ⟨g1, g2, g3⟩ := mixW_get v u k h
        have ul : u.l.length = 8 := rfl
        generalize mixW v.l u.l k = M at hml g1 g3
        generalize getW v.l k = p at g1 g3
        generalize getW u.l k = q at g2 g3
        simp [hkk, hk1, S8.V_eq, ht, List.getElem?_append_left, g1, g2, hml, ul, wV_eq]
        refine ⟨k + 1, h, by omega, by omega, ?_⟩
        rw [← g3]
        simp [wV_eq]
      · have : k = 8 := by omega
        subst this
        simp
        have hx := (underH_get hU).1 _ hH
        simp [V.under, V.underL] at hx
        exact ⟨_, ⟨_, rfl⟩, by simp, underH_set hU (by simp [V.under, V.underL, hx]), rfl⟩
end Go.Abs
end

section
namespace Go.Abs
open Go
set_option maxRecDepth 20000

theorem blocks_snoc (n : Nat) : ∀ (v : S8) (s : Bs), blocks v (n + 1) s = addB (blocks v n s) ((s.drop (64 * n)).take 64) := by
  induction n with
  | zero => intro v s; simp [blocks]
  | succ n ih =>
    intro v s
    rw [blocks, ih, blocks, List.drop_drop]
    congr 3
    omega

theorem blocks_add (n : Nat) : ∀ (m : Nat) (v : S8) (s : Bs), blocks v (m + n) s = blocks (blocks v m s) n (s.drop (64 * m)) := by
  intro m
  induction m with
  | zero => intro v s; simp [blocks]
  | succ m ih =>
    intro v s
    rw [show m + 1 + n = (m + n) + 1 by omega, blocks, ih, blocks, List.drop_drop]
    congr 2
    omega

theorem blocks_append (n : Nat) : ∀ (v : S8) (s t : Bs), 64 * n ≤ s.length → blocks v n (s ++ t) = blocks v n s := by
  induction n with
  | zero => intro v s t _; rfl
  | succ n ih =>
    intro v s t h
    rw [blocks, blocks, List.take_append_of_le_length (by omega), List.drop_append_of_le_length (by omega), ih _ _ _ (by rw [List.length_drop]; omega)]

theorem S8_bytes (v : S8) : (v.l.flatMap be4).length = 32 := by rw [flat_be4_length]; rfl

def hashV (v : S8) (rest : Bs) (n : Nat) : V := .agg [v.V, .str rest, .int .i64 n]

theorem f_sha_New {H : HP} : TC Pg n_sha_New [] H fun r H' => r = .ptr H.length [] ∧ H' = H ++ [.cell (hashV h0 [] 0)] := by
  refine TC.bodyK k_sha_New hP rfl ?_
  simp [c_sha_New, r_sha_New]
  refine CallB.p f_sha_begin ?_
  simp [hashV, S8.V]

theorem f_sha_Hash_Write {H : HP} {t : Nat} (v : S8) (rest s : Bs) (n : Nat) (hn : n + s.length < 1073741824) (hr : rest.length < 1073741824) (hH : H[t]? = some (.cell (hashV v rest n))) :
    TC Pg n_sha_Hash_Write [.ptr t [], .str s] H fun _r H' => H' = H.set t (.cell (hashV (blocks v ((rest ++ s).length / 64) (rest ++ s)) ((rest ++ s).drop (64 * ((rest ++ s).length / 64))) (n + s.length))) := by
  have ht : t < H.length := (List.getElem?_eq_some_iff.1 hH).1
  refine TC.under fun hU => TC.bodyS k_sha_Hash_Write hP rfl ?_
  have hw : IntKind.i64.wrap ((n : Int) + s.length) = ((n + s.length : Nat) : Int) := by rw [wrap_i64 (by omega) (by omega)]; omega
  generalize hQ : (fun (_ : V) (H' : HP) => H' = H.set t (.cell (hashV (blocks v ((rest ++ s).length / 64) (rest ++ s)) ((rest ++ s).drop (64 * ((rest ++ s).length / 64))) (n + s.length)))) = Q
  simp [c_sha_Hash_Write, r_sha_Hash_Write]
  unfold hashV at hH
  have sH : ∀ b : Blk, (H.set t b)[t]? = some b := fun b => List.getElem?_set_self ht
  simp [hH, sH, hw]
  refine ⟨rfl, by omega, ?_⟩
  have hall : (rest ++ s).length = rest.length + s.length := List.length_append
  generalize rest ++ s = all at hQ hall
  refine AW_wloop (fun k : Nat => [(0, .ptr t []), (1, .str s), (5, .str (all.drop (64 * k)))]) (fun k => H.set t (.cell (.agg [(blocks v k all).V, .str rest, .int .i64 ((n + s.length : Nat) : Int)]))) (fun k => 64 * k ≤ all.length) (fun k => all.length - 64 * k) 0 (Nat.zero_le _)
    (Weak.of_eq (by simp) (by simp [blocks])) ?_
  intro k hk
  have hlen : (all.drop (64 * k)).length = all.length - 64 * k := List.length_drop
  rcases Nat.lt_or_ge (all.length - 64 * k) 64 with h | h
  · have hlt : ¬ (64 : Int) ≤ ((all.length - 64 * k : Nat) : Int) := by omega
    have hdk : all.length / 64 = k := by omega
    simp [hlen, hlt, sH]
    refine ⟨rfl, ⟨_, ⟨⟨[], (List.append_nil _).symm⟩, by simp, underH_set hU ?_, ?_⟩⟩⟩
    · have hx := (underH_get hU).1 _ hH
      simp [V.under, V.underL, S8.V, wV_eq]
    · rw [← hQ, hdk]
      rfl
  · have hlt : (64 : Int) ≤ ((all.length - 64 * k : Nat) : Int) := by omega
    have ht64 : ((all.drop (64 * k)).take 64).length = 64 := by rw [List.length_take, hlen]; omega
    simp [hlen, hlt, sH]
    refine CallB.w (f_sha_state_add (blocks v k all) (.str rest) (.int .i64 ((n : Int) + s.length)) _ ht64 (sH _)) ?_
    rintro _ _ ⟨rfl, rfl⟩
    simp [hlen, hlt]
    refine ⟨k + 1, by omega, by omega, ?_, by rw [blocks_snoc]⟩
    rw [List.take_of_length_le (by omega), List.drop_drop]
    congr 1
end Go.Abs
end

section
namespace Go.Proofs
open Go.Shelf
def Tryz.lays144_ren : Go.Shelf.Ren := ⟨fun | 144 => 159 | 143 => 169 | 219 => 177 | 217 => 181 | 225 => 182 | 224 => 183 | 267 => 184 | 266 => 185 | 314 => 186 | n => n, fun | 9 => 9 | 4 => 4 | 3 => 3 | 5 => 5 | 46 => 106 | 146 => 218 | 51 => 139 | n => n, fun | 1 => 0 | n => n⟩
theorem Tryz.lays144 : Go.Proofs.Lays.n144 Tryz.prog Tryz.lays144_ren := {
  mixed := by kernel_rfl
  f143 := Tryz.func169.trans (congrArg some (by kernel_rfl))
  f144 := Tryz.func159.trans (congrArg some (by kernel_rfl))
  f217 := Tryz.func181.trans (congrArg some (by kernel_rfl))
  f219 := Tryz.func177.trans (congrArg some (by kernel_rfl))
  f224 := Tryz.func183.trans (congrArg some (by kernel_rfl))
  f225 := Tryz.func182.trans (congrArg some (by kernel_rfl))
  f266 := Tryz.func185.trans (congrArg some (by kernel_rfl))
  f267 := Tryz.func184.trans (congrArg some (by kernel_rfl))
  f314 := Tryz.func186.trans (congrArg some (by kernel_rfl))
  t3 := Tryz.underlying3
  a3 := Tryz.isAgg3
  z3 := Tryz.sizeOf3
  v3 := Tryz.zeroValue3
  t4 := Tryz.underlying4
  a4 := Tryz.isAgg4
  z4 := Tryz.sizeOf4
  v4 := Tryz.zeroValue4
  t5 := Tryz.underlying5
  a5 := Tryz.isAgg5
  z5 := Tryz.sizeOf5
  v5 := Tryz.zeroValue5
  t9 := Tryz.underlying9
  a9 := Tryz.isAgg9
  z9 := Tryz.sizeOf9
  v9 := Tryz.zeroValue9
  t46 := Tryz.underlying106
  a46 := Tryz.isAgg106
  z46 := Tryz.sizeOf106
  v46 := Tryz.zeroValue106
  t51 := Tryz.underlying139
  a51 := Tryz.isAgg139
  z51 := Tryz.sizeOf139
  v51 := Tryz.zeroValue139
  t146 := Tryz.underlying218
  a146 := Tryz.isAgg218
  z146 := Tryz.sizeOf218
  v146 := Tryz.zeroValue218
  g1 := by kernel_rfl }
def Tryz.lays105_ren : Go.Shelf.Ren := ⟨fun | 105 => 154 | 212 => 161 | 99 => 162 | 165 => 163 | 166 => 164 | 170 => 165 | 169 => 166 | 263 => 170 | 264 => 171 | 206 => 172 | 240 => 173 | 241 => 174 | 276 => 178 | 277 => 179 | n => n, fun | 9 => 9 | 3 => 3 | 4 => 4 | 20 => 20 | 0 => 0 | 46 => 106 | 109 => 204 | 5 => 5 | 72 => 208 | 76 => 212 | 51 => 139 | 146 => 218 | 53 => 141 | 148 => 220 | 70 => 206 | 37 => 76 | 75 => 211 | 127 => 222 | 164 => 225 | 80 => 83 | n => n, fun | n => n⟩
theorem Tryz.lays105 : Go.Proofs.Lays.n105 Tryz.prog Tryz.lays105_ren := {
  mixed := by kernel_rfl
  f99 := Tryz.func162.trans (congrArg some (by kernel_rfl))
  f105 := Tryz.func154.trans (congrArg some (by kernel_rfl))
  f165 := Tryz.func163.trans (congrArg some (by kernel_rfl))
  f166 := Tryz.func164.trans (congrArg some (by kernel_rfl))
  f169 := Tryz.func166.trans (congrArg some (by kernel_rfl))
  f170 := Tryz.func165.trans (congrArg some (by kernel_rfl))
  f206 := Tryz.func172.trans (congrArg some (by kernel_rfl))
  f212 := Tryz.func161.trans (congrArg some (by kernel_rfl))
  f240 := Tryz.func173.trans (congrArg some (by kernel_rfl))
  f241 := Tryz.func174.trans (congrArg some (by kernel_rfl))
  f263 := Tryz.func170.trans (congrArg some (by kernel_rfl))
  f264 := Tryz.func171.trans (congrArg some (by kernel_rfl))
  f276 := Tryz.func178.trans (congrArg some (by kernel_rfl))
  f277 := Tryz.func179.trans (congrArg some (by kernel_rfl))
  t0 := Tryz.underlying0
  a0 := Tryz.isAgg0
  z0 := Tryz.sizeOf0
  v0 := Tryz.zeroValue0
  t3 := Tryz.underlying3
  a3 := Tryz.isAgg3
  z3 := Tryz.sizeOf3
  v3 := Tryz.zeroValue3
  t4 := Tryz.underlying4
  a4 := Tryz.isAgg4
  z4 := Tryz.sizeOf4
  v4 := Tryz.zeroValue4
  t5 := Tryz.underlying5
  a5 := Tryz.isAgg5
  z5 := Tryz.sizeOf5
  v5 := Tryz.zeroValue5
  t9 := Tryz.underlying9
  a9 := Tryz.isAgg9
  z9 := Tryz.sizeOf9
  v9 := Tryz.zeroValue9
  t20 := Tryz.underlying20
  a20 := Tryz.isAgg20
  z20 := Tryz.sizeOf20
  v20 := Tryz.zeroValue20
  t37 := Tryz.underlying76
  a37 := Tryz.isAgg76
  z37 := Tryz.sizeOf76
  v37 := Tryz.zeroValue76
  t46 := Tryz.underlying106
  a46 := Tryz.isAgg106
  z46 := Tryz.sizeOf106
  v46 := Tryz.zeroValue106
  t51 := Tryz.underlying139
  a51 := Tryz.isAgg139
  z51 := Tryz.sizeOf139
  v51 := Tryz.zeroValue139
  t53 := Tryz.underlying141
  a53 := Tryz.isAgg141
  z53 := Tryz.sizeOf141
  v53 := Tryz.zeroValue141
  t70 := Tryz.underlying206
  a70 := Tryz.isAgg206
  z70 := Tryz.sizeOf206
  v70 := Tryz.zeroValue206
  t72 := Tryz.underlying208
  a72 := Tryz.isAgg208
  z72 := Tryz.sizeOf208
  v72 := Tryz.zeroValue208
  t75 := Tryz.underlying211
  a75 := Tryz.isAgg211
  z75 := Tryz.sizeOf211
  v75 := Tryz.zeroValue211
  t76 := Tryz.underlying212
  a76 := Tryz.isAgg212
  z76 := Tryz.sizeOf212
  v76 := Tryz.zeroValue212
  t109 := Tryz.underlying204
  a109 := Tryz.isAgg204
  z109 := Tryz.sizeOf204
  v109 := Tryz.zeroValue204
  t127 := Tryz.underlying222
  a127 := Tryz.isAgg222
  z127 := Tryz.sizeOf222
  v127 := Tryz.zeroValue222
  t146 := Tryz.underlying218
  a146 := Tryz.isAgg218
  z146 := Tryz.sizeOf218
  v146 := Tryz.zeroValue218
  t148 := Tryz.underlying220
  a148 := Tryz.isAgg220
  z148 := Tryz.sizeOf220
  v148 := Tryz.zeroValue220
  t164 := Tryz.underlying225
  a164 := Tryz.isAgg225
  z164 := Tryz.sizeOf225
  v164 := Tryz.zeroValue225 }
theorem Tryz.Builder_Extra_105 : Builder.Extra Tryz.prog Tryz.lays105_ren := {
  sizeBuilder := by kernel_rfl
  liesBuilder := by kernel_rfl
  t5 := Tryz.underlying5
  a5 := Tryz.isAgg5
  z5 := Tryz.sizeOf5
  v5 := Tryz.zeroValue5
  infoByte := by kernel_rfl
  cellsByte := by kernel_rfl
  sizeByte := by kernel_rfl
  neB5 := by decide }
end Go.Proofs
end

section
namespace Go.Abs
open Go
open Go.RowKit (Below)
set_option maxRecDepth 20000

/-- Is the number one of a function with a body, and no odd one? -/
def bodied (P : Program) (f : FuncId) : Bool := match P.funcs[f]? with
  | some fn => fn.body.isSome && fn.name != "runtime.NumGoroutine"
  | none => false
theorem bodied_iff {P : Program} {f : FuncId} (h : bodied P f = true) : ∃ fn c, P.funcs[f]? = some fn ∧ fn.body = some c ∧ fn.name ≠ "runtime.NumGoroutine" := by
  unfold bodied at h
  split at h
  · rename_i fn hf
    simp only [Bool.and_eq_true, bne_iff_ne, ne_eq] at h
    obtain ⟨c, hc⟩ := Option.isSome_iff_exists.1 h.1
    exact ⟨fn, c, hf, hc, h.2⟩
  · cases h

theorem b_Repeat : bodied Pg n_strings_Repeat = true := by kernel_rfl
theorem b_Contains : bodied Pg n_strings_Contains = true := by kernel_rfl

theorem repAll_strint {σ : St} {s : List UInt8} {n : Int} {cs : List Value} (h : RepAll σ [.str s, .int .i64 n] cs) : cs = [.string ⟨s.toArray⟩, .int .i64 n] := by
  obtain ⟨c, d, rfl, h1, c2, d2, rfl, h2, h3⟩ := h
  have h3 : d2 = [] := h3
  subst h3
  rw [repV_str.1 h1, repV_int.1 h2]
theorem repAll_strstr {σ : St} {s t : List UInt8} {cs : List Value} (h : RepAll σ [.str s, .str t] cs) : cs = [.string ⟨s.toArray⟩, .string ⟨t.toArray⟩] := by
  obtain ⟨c, d, rfl, h1, c2, d2, rfl, h2, h3⟩ := h
  have h3 : d2 = [] := h3
  subst h3
  rw [repV_str.1 h1, repV_str.1 h2]

theorem repeatL_zeros (n : Nat) : Lib.repeatL [0] n = List.replicate n 0 := by
  induction n with
  | zero => rfl
  | succ n ih => simp [Lib.repeatL, ih, List.replicate_succ]

theorem f_strings_Repeat0 (n : Nat) (h : n < 64) : TCp Pg n_strings_Repeat [.str [0], .int .i64 n] (.str (List.replicate n 0)) := by
  refine TCp.of_calls (bodied_iff b_Repeat) rfl fun σ cargs hargs => ?_
  rw [repAll_strint hargs]
  refine Calls.mono (Go.Proofs.Any.strings_Repeat Go.Proofs.Tryz.lays105 Go.Proofs.Tryz.Builder_Extra_105 ⟨[0].toArray⟩ n σ.w (by omega) (by show 1 * n ≤ _; omega)) ?_
  rintro e w' ⟨rfl, hb⟩
  refine ⟨_, rfl, repV_str.2 ?_, hb⟩
  rw [← repeatL_zeros]

theorem indexByte_contains (l : List UInt8) (c : UInt8) : decide (0 ≤ Lib.indexByte l c) = l.contains c := by
  induction l with
  | nil => rfl
  | cons a l ih =>
    have hge := Lib.indexByte_ge l c
    unfold Lib.indexByte
    rw [List.contains_cons]
    by_cases e : a = c
    · subst e; simp
    · have e1 : (a == c) = false := by simp [e]
      have e2 : (c == a) = false := by simp [Ne.symm e]
      rw [e1, e2, Bool.false_or, ← ih]
      by_cases q : Lib.indexByte l c = -1
      · rw [q]; rfl
      · have q1 : (Lib.indexByte l c == -1) = false := by simp [q]
        rw [q1]
        have h1 : (0 : Int) ≤ Lib.indexByte l c := by omega
        have h2 : (0 : Int) ≤ Lib.indexByte l c + 1 := by omega
        simp [h1, h2]

theorem f_strings_Contains1 (s : List UInt8) (c : UInt8) : TCp Pg n_strings_Contains [.str s, .str [c]] (.bool (s.contains c)) := by
  refine TCp.of_calls (bodied_iff b_Contains) rfl fun σ cargs hargs => ?_
  rw [repAll_strstr hargs]
  refine Calls.mono (Go.Proofs.Any.strings_Contains_one Go.Proofs.Tryz.lays144 ⟨s.toArray⟩ c σ.w) ?_
  rintro e w' ⟨rfl, rfl⟩
  refine ⟨_, rfl, repV_bool.2 ?_, Below.refl _ _⟩
  rw [← indexByte_contains]
end Go.Abs
end

section
namespace Go.Abs
open Go
set_option maxRecDepth 20000

theorem f_sha_pad (n : Nat) (hn : n < 1073741824) : TCp Pg n_sha_pad [.int .i64 n] (.str ([128] ++ List.replicate (zeros n) 0 ++ beLow (n * 8) 8)) := by
  refine TCp.body k_sha_pad hP rfl rfl rfl ?_
  have e1 : (n : Int).tmod 64 = ((n % 64 : Nat) : Int) := rfl
  have e2 : IntKind.i64.wrap (119 - ((n % 64 : Nat) : Int)) = ((119 - n % 64 : Nat) : Int) := by rw [wrap_i64 (by omega) (by omega)]; omega
  have e3 : ((119 - n % 64 : Nat) : Int).tmod 64 = ((zeros n : Nat) : Int) := rfl
  have e4 : IntKind.u64.wrap (n : Int) = n := wrap_u64 (by omega) (by omega)
  have e5 : IntKind.u64.wrap ((n : Int) * 8) = ((n * 8 : Nat) : Int) := by rw [wrap_u64 (by omega) (by omega)]; omega
  have hz : zeros n < 64 := Nat.mod_lt _ (by decide)
  simp [c_sha_pad, r_sha_pad, e1, e2, e3, e4, e5, -Int.natCast_emod]
  refine CallB.p (f_word_Number (n * 8) (by omega)) ?_
  simp
  have e4 : (IntKind.i64.wrap (119 - (n : Int) % 64)).tmod 64 = ((zeros n : Nat) : Int) := by
    rw [← e3, ← e2]; rfl
  try rw [e4]
  refine CallB.p (f_strings_Repeat0 _ hz) ?_
  simp [beLow_length]
  omega

theorem f_sha_Hash_Sum {H : HP} {t : Nat} (v : S8) (rest : Bs) (n : Nat) (hn : n < 1073741000) (hr : rest.length < 64) (hH : H[t]? = some (.cell (hashV v rest n))) :
    TC Pg n_sha_Hash_Sum [.ptr t []] H fun r H' => r = idV ((blocks v ((rest ++ ([128] ++ List.replicate (zeros n) 0 ++ beLow (n * 8) 8)).length / 64) (rest ++ ([128] ++ List.replicate (zeros n) 0 ++ beLow (n * 8) 8))).l.flatMap be4) ∧ H' = H := by
  refine TC.under fun hU => TC.bodyS k_sha_Hash_Sum hP rfl ?_
  generalize hQ : (fun (r : V) (H' : HP) => r = idV ((blocks v ((rest ++ ([128] ++ List.replicate (zeros n) 0 ++ beLow (n * 8) 8)).length / 64) (rest ++ ([128] ++ List.replicate (zeros n) 0 ++ beLow (n * 8) 8))).l.flatMap be4) ∧ H' = H) = Q
  have ht : t < H.length := (List.getElem?_eq_some_iff.1 hH).1
  have sA : ∀ L : HP, (H ++ L)[t]? = some (.cell (hashV v rest n)) := fun L => by rw [List.getElem?_append_left ht]; exact hH
  unfold hashV at hH sA
  simp [c_sha_Hash_Sum, r_sha_Hash_Sum, sA, S8.V, wV_eq]
  refine CallB.p (f_sha_pad n (by omega)) ?_
  simp
  refine CallB.w (f_sha_Hash_Write (t := H.length + 1) v rest _ n (by have hz : zeros n < 64 := Nat.mod_lt _ (by decide); simp [beLow_length]; omega) (by omega) (by simp [hashV, S8.V, wV_eq])) ?_
  rintro _ _ rfl
  rw [show (128 :: (List.replicate (zeros n) 0 ++ beLow (n * 8) 8)) = ([128] ++ List.replicate (zeros n) 0 ++ beLow (n * 8) 8) by simp]
  generalize ([128] ++ List.replicate (zeros n) 0 ++ beLow (n * 8) 8) = e at hQ ⊢
  generalize rest ++ e = all at hQ ⊢
  have h32 := S8_bytes (blocks v (all.length / 64) all)
  simp [hashV, S8.V_eq]
  refine ⟨by simp [S8.l], ?_⟩
  refine CallB.r (args' := [.sl 1 ((blocks v (all.length / 64) all).l.map wV) .view]) (f_word_Bytes _ (by simp [S8.l])) rfl (by simp only [List.map_cons, List.map_nil]; rw [fz_arr (xs := (blocks v (all.length / 64) all).l.map wV) (by simp; rfl) rfl (by simp)]; simp [S8.l]) ?_
  generalize (blocks v (all.length / 64) all).l.flatMap be4 = b at h32 hQ
  have htk : (bytesV b).take 32 = bytesV b := List.take_of_length_le (by simp [h32])
  simp [h32, htk, bytesV_shapeL]
  exact ⟨H, ⟨_, rfl⟩, rfl, hU, by rw [← hQ]; exact ⟨rfl, rfl⟩⟩

theorem sha_split (s : Bs) : blocks (blocks h0 (s.length / 64) s) ((s.drop (64 * (s.length / 64)) ++ ([128] ++ List.replicate (zeros s.length) 0 ++ beLow (s.length * 8) 8)).length / 64) (s.drop (64 * (s.length / 64)) ++ ([128] ++ List.replicate (zeros s.length) 0 ++ beLow (s.length * 8) 8)) = blocks h0 ((padded s).length / 64) (padded s) := by
  have hp : padded s = s ++ ([128] ++ List.replicate (zeros s.length) 0 ++ beLow (s.length * 8) 8) := by simp [padded]
  generalize ([128] ++ List.replicate (zeros s.length) 0 ++ beLow (s.length * 8) 8) = e at hp ⊢
  have h1 : 64 * (s.length / 64) ≤ s.length := by omega
  have h2 : (s.drop (64 * (s.length / 64)) ++ e).length / 64 = (padded s).length / 64 - s.length / 64 := by rw [hp, List.length_append, List.length_append, List.length_drop]; omega
  have h3 : (padded s).length / 64 = s.length / 64 + ((padded s).length / 64 - s.length / 64) := by rw [hp, List.length_append]; omega
  rw [h2, h3, blocks_add, hp, blocks_append _ _ _ _ h1, List.drop_append_of_le_length h1]
  congr 1
  rw [List.length_append]
  omega

theorem f_sha_Sum (s : Bs) (hs : s.length < 1073741000) : TCp Pg n_sha_Sum [.str s] (idV (sha s)) := by
  refine TCp.body k_sha_Sum hP rfl rfl (by simp) ?_
  simp [c_sha_Sum, r_sha_Sum]
  refine CallB.w f_sha_New ?_
  rintro _ _ ⟨rfl, rfl⟩
  simp
  refine CallB.w (f_sha_Hash_Write h0 [] s 0 (by omega) (by simp) (by rfl)) ?_
  rintro _ _ rfl
  simp
  refine CallB.w (f_sha_Hash_Sum (blocks h0 (s.length / 64) s) (s.drop (64 * (s.length / 64))) s.length (by omega) (by rw [List.length_drop]; omega) (by simp)) ?_
  rintro _ _ ⟨rfl, rfl⟩
  rw [sha_split]
  unfold sha
  have h32 := S8_bytes (blocks h0 ((padded s).length / 64) (padded s))
  generalize (blocks h0 ((padded s).length / 64) (padded s)).l.flatMap be4 = b at h32
  simp [idV, bytesV_shapeL, h32]
end Go.Abs
end

section
namespace Go.Abs
open Go
set_option maxRecDepth 20000

theorem Weak.view_eq {n0 : Nat} {tm tm' : TM} {H : HP} (i : Nat) (h : viewTM tm i = tm') : Weak n0 tm H tm' H := h ▸ Weak.view i

theorem plus_get (v u : S8) (k : Nat) (h : k < 8) : v.l[k]? = some (getW v.l k) ∧ u.l[k]? = some (getW u.l k) ∧ (v.plus u).l.take (k + 1) = (v.plus u).l.take k ++ [getW v.l k + getW u.l k] := by
  have hc : k = 0 ∨ k = 1 ∨ k = 2 ∨ k = 3 ∨ k = 4 ∨ k = 5 ∨ k = 6 ∨ k = 7 := by omega
  rcases hc with rfl | rfl | rfl | rfl | rfl | rfl | rfl | rfl <;> exact ⟨rfl, rfl, rfl⟩

theorem wI_not_sub (a : UInt32) : IntKind.u32.wrap (4294967295 - wI a) = wI (~~~a) := by
  unfold wI
  have := a.toNat_lt
  have h : UInt32.size = 4294967296 := rfl
  rw [wrap_u32, UInt32.toNat_not]
  omega

theorem u32_bits {a b : UInt32} (h : ∀ i : Nat, i < 32 → a.toBitVec.getLsbD i = b.toBitVec.getLsbD i) : a = b := by
  apply UInt32.toBitVec_inj.1
  exact BitVec.eq_of_getLsbD_eq fun i hi => h i hi

theorem ch_or (e f g : UInt32) : (e &&& f) ||| (~~~e &&& g) = chW e f g := by
  apply u32_bits
  intro i hi
  simp [chW, hi]
  generalize e.toBitVec[i] = x
  generalize f.toBitVec[i] = y
  generalize g.toBitVec[i] = z
  cases x <;> cases y <;> cases z <;> rfl
theorem maj_or (a b c : UInt32) : (a &&& b) ||| (a &&& c) ||| (b &&& c) = majW a b c := by
  apply u32_bits
  intro i hi
  simp [majW, hi]
  generalize a.toBitVec[i] = x
  generalize b.toBitVec[i] = y
  generalize c.toBitVec[i] = z
  cases x <;> cases y <;> cases z <;> rfl

theorem f_ref02_Known : TCp Pg n_ref02_Known [] (.tup [.sl 1 (h0.l.map wV) .full, .sl 1 (K64.map wV) .full]) := by
  refine TCp.body k_ref02_Known hP rfl rfl rfl ?_
  simp [c_ref02_Known, r_ref02_Known]
  exact ⟨rfl, rfl⟩

theorem beNat_word (s : Bs) (_h : s.length ≤ 4) : IntKind.u32.wrap (beNat s : Int) = wI (UInt32.ofNat (beNat s)) := by
  unfold wI
  rw [wrap_u32, UInt32.toNat_ofNat']
  omega

set_option maxHeartbeats 4000000 in
theorem f_ref02_one (v : S8) (s : Bs) (hs : s.length = 64) : TCp Pg n_ref02_one [.sl 1 (v.l.map wV) .view, .sl 1 (K64.map wV) .view, .str s] (.sl 1 ((addB v s).l.map wV) .view) := by
  refine TCp.bodyV k_ref02_one hP rfl (by simp) (by simp) ?_
  simp [c_ref02_one, r_ref02_one]
  refine AW_wloop (fun k : Nat => [(0, .sl 1 (v.l.map wV) .view), (1, .sl 1 (K64.map wV) .view), (2, .str s), (7, .sl 1 ((words s k).map wV) (.row 0)), (8, .int .i64 k)]) (fun k => [.row k 1]) (fun k => k ≤ 16) (fun k => 16 - k) 0 (Nat.zero_le _) (Weak.open 7 1 rfl) ?_
  intro k hk
  rcases Nat.lt_or_ge k 16 with h | h
  · have hk1 := i64_succ k (by omega)
    have hkk : ((k : Int) < 16) := by omega
    have e4 : IntKind.i64.wrap (4 * (k : Int)) = ((4 * k : Nat) : Int) := by rw [wrap_i64 (by omega) (by omega)]; omega
    have e5 : IntKind.i64.wrap (4 * (k : Int) + 4) = ((4 * k + 4 : Nat) : Int) := by rw [wrap_i64 (by omega) (by omega)]; omega
    have hn : (4 * (k : Int)).toNat = 4 * k := by omega
    have hn4 : (4 * (k : Int) + 4).toNat = 4 * k + 4 := by omega
    have hsl : ((s.take (4 * k + 4)).drop (4 * k)) = (s.drop (4 * k)).take 4 := by rw [List.drop_take]; congr 1; omega
    simp [hkk, e4, e5, hs, hn, hn4, hsl]
    refine ⟨by omega, CallB.p (f_ref01_Value _ (by rw [List.length_take, List.length_drop]; omega)) ?_⟩
    have hbe := beNat_word ((s.drop (4 * k)).take 4) (by rw [List.length_take]; omega)
    simp [hbe, hk1, words_length]
    refine ⟨by omega, k + 1, h, by omega, ⟨?_, by omega⟩⟩
    rw [words_succ]; simp; rfl
  · have : k = 16 := by omega
    subst this
    simp
    refine AW_wloop (fun k : Nat => [(0, .sl 1 (v.l.map wV) .view), (1, .sl 1 (K64.map wV) .view), (7, .sl 1 ((sched s k).map wV) (.row 0)), (9, .int .i64 ((16 + k : Nat) : Int))]) (fun k => [.row (16 + k) 1]) (fun k => k ≤ 48) (fun k => 48 - k) 0 (Nat.zero_le _) (Weak.of_eq (by simp [sched]) rfl) ?_
    intro k hk
    rcases Nat.lt_or_ge k 48 with h | h
    · have e15 : IntKind.i64.wrap (16 + (k : Int) - 15) = ((k + 1 : Nat) : Int) := by rw [wrap_i64 (by omega) (by omega)]; omega
      have e2 : IntKind.i64.wrap (16 + (k : Int) - 2) = ((k + 14 : Nat) : Int) := by rw [wrap_i64 (by omega) (by omega)]; omega
      have e16 : IntKind.i64.wrap (16 + (k : Int) - 16) = ((k : Nat) : Int) := by rw [wrap_i64 (by omega) (by omega)]; omega
      have e7 : IntKind.i64.wrap (16 + (k : Int) - 7) = ((k + 9 : Nat) : Int) := by rw [wrap_i64 (by omega) (by omega)]; omega
      have e1 : IntKind.i64.wrap (16 + (k : Int) + 1) = 16 + ((k + 1 : Nat) : Int) := by rw [wrap_i64 (by omega) (by omega)]; omega
      have hkk : (16 + (k : Int) < 64) := by omega
      have hl := sched_length s k
      have gg : ∀ i, i < 16 + k → (sched s k)[i]? = some (getW (sched s k) i) := fun i hi => by
        unfold getW
        rw [List.getD_eq_getElem?_getD, List.getElem?_eq_getElem (by omega)]
        rfl
      have g15 := gg (k + 1) (by omega)
      have g2 := gg (k + 14) (by omega)
      have g16 := gg k (by omega)
      have g7 := gg (k + 9) (by omega)
      have hnx : sched s (k + 1) = sched s k ++ [nextW (sched s k)] := rfl
      have q0 : 16 + k - 16 = k := by omega
      have q1 : 16 + k - 15 = k + 1 := by omega
      have q2 : 16 + k - 2 = k + 14 := by omega
      have q3 : 16 + k - 7 = k + 9 := by omega
      unfold nextW at hnx
      rw [hl, q0, q1, q2, q3] at hnx
      generalize sched s k = L at *
      generalize getW L k = x0 at *
      generalize getW L (k + 1) = x1 at *
      generalize getW L (k + 14) = x2 at *
      generalize getW L (k + 9) = x3 at *
      simp [hkk, e15, e2, e16, hl, g15, g2, wV_eq]
      refine ⟨by omega, by omega, by omega, CallQ.of (f_ref02_turn x1 7 (by omega) (by omega)) ?_⟩
      simp [wV_eq]
      refine CallQ.of (f_ref02_turn x1 18 (by omega) (by omega)) ?_
      simp [hl, g7, e7, wV_eq]
      refine ⟨by omega, CallQ.of (f_ref02_turn x2 17 (by omega) (by omega)) ?_⟩
      simp [wV_eq]
      refine CallQ.of (f_ref02_turn x2 19 (by omega) (by omega)) ?_
      simp [hl, e1, wV_eq]
      refine ⟨by omega, k + 1, h, by omega, ⟨?_, rfl⟩, by omega⟩
      have hLk : L[k] = x0 := by rw [List.getElem?_eq_getElem (by omega)] at g16; exact Option.some.inj g16
      rw [hnx, hLk]
      simp [sig0, sig1, wV_eq]
    · have : k = 48 := by omega
      subst this
      simp
      refine ⟨?_, ?_⟩
      · simp [S8.l]
      refine AW_wloopW (fun k : Nat => [(0, .sl 1 (v.l.map wV) .view), (1, .sl 1 (K64.map wV) .view), (7, .sl 1 ((sched s 48).map wV) (.row 0)), (12, .sl 1 ((rnds s v k).l.map wV) .view), (13, .int .i64 k)]) (fun k => [.row 64 1, .row 8 1]) (fun k => k ≤ 64) (fun k => 64 - k) 0 (Nat.zero_le _) (Weak.view_eq 12 (by simp [viewTM, rnds, S8.l])) ?_
      intro k hk
      have hl := sched_length s 48
      rcases Nat.lt_or_ge k 64 with h | h
      · have hk1 := i64_succ k (by omega)
        have hkk : ((k : Int) < 64) := by omega
        have gw : (sched s 48)[k]? = some (getW (sched s 48) k) := by
          unfold getW
          rw [List.getD_eq_getElem?_getD, List.getElem?_eq_getElem (by omega)]
          rfl
        have gk : K64[k]? = some (getW K64 k) := by unfold getW; rw [List.getD_eq_getElem?_getD, List.getElem?_eq_getElem (show k < K64.length from h)]; rfl
        have hkl : K64.length = 64 := rfl
        have hr : rnds s v (k + 1) = rnd (rnds s v k) (getW K64 k) (getW (sched s 48) k) := rfl
        generalize sched s 48 = L at *
        generalize getW K64 k = kk at *
        generalize K64 = KL at *
        generalize getW L k = ww at *
        generalize rnds s v k = u at *
        obtain ⟨a, b, c, d, e, f, g, i⟩ := u
        simp [hkk, S8.l, wV_eq]
        refine CallQ.of (f_ref02_turn e 6 (by omega) (by omega)) ?_
        simp [wV_eq]
        refine CallQ.of (f_ref02_turn e 11 (by omega) (by omega)) ?_
        simp [wV_eq]
        refine CallQ.of (f_ref02_turn e 25 (by omega) (by omega)) ?_
        simp [hkl, hl, h, wI_not_sub, ch_or, wV_eq]
        refine ⟨by omega, CallQ.of (f_ref02_turn a 2 (by omega) (by omega)) ?_⟩
        simp [wV_eq]
        refine CallQ.of (f_ref02_turn a 13 (by omega) (by omega)) ?_
        simp [wV_eq]
        refine CallQ.of (f_ref02_turn a 22 (by omega) (by omega)) ?_
        have hLk : L[k] = ww := by rw [List.getElem?_eq_getElem (by omega)] at gw; exact Option.some.inj gw
        have hKk : KL[k] = kk := by rw [List.getElem?_eq_getElem (by omega)] at gk; exact Option.some.inj gk
        simp [hk1, maj_or, hLk, hKk, wV_eq]
        refine ⟨k + 1, h, by omega, Weak.view_eq 12 ?_⟩
        rw [hr]
        simp [viewTM, rnd, big1, big0]
      · have : k = 64 := by omega
        subst this
        simp
        have hadd : addB v s = v.plus (rnds s v 64) := rfl
        rw [hadd]
        generalize rnds s v 64 = u
        refine AW_wloop (fun k : Nat => [(0, .sl 1 (v.l.map wV) .view), (12, .sl 1 (u.l.map wV) .view), (18, .sl 1 (((v.plus u).l.take k).map wV) (.row 2)), (19, .int .i64 k)]) (fun k => [.row 64 1, .row 8 1, .row k 1]) (fun k => k ≤ 8) (fun k => 8 - k) 0 (Nat.zero_le _) (Weak.open 18 1 rfl) ?_
        intro k hk
        rcases Nat.lt_or_ge k 8 with h | h
        · have hk1 := i64_succ k (by omega)
          have hkk : ((k : Int) < 8) := by omega
          have vl : v.l.length = 8 := rfl
          have ul : u.l.length = 8 := rfl
          have gv : v.l[k]? = some (getW v.l k) := (plus_get v u k h).1
          have gu : u.l[k]? = some (getW u.l k) := (plus_get v u k h).2.1
          have gs : (v.plus u).l.take (k + 1) = (v.plus u).l.take k ++ [getW v.l k + getW u.l k] := (plus_get v u k h).2.2
          simp [hkk, hk1, gv, gu, vl, ul, wV_eq]
          have hpl : (v.plus u).l.length = 8 := rfl
          refine ⟨by omega, by omega, k + 1, h, by omega, ⟨?_, by omega⟩, by omega⟩
          rw [← List.map_take, ← List.map_take, gs]
          simp [wV_eq]
        · have : k = 8 := by omega
          subst this
          have hpl : (v.plus u).l.take 8 = (v.plus u).l := rfl
          simp [hpl]
end Go.Abs
end
