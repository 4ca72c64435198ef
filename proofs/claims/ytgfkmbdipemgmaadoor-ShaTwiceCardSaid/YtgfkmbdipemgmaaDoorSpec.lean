/- Plain functions: what the two texts of SHA-256 compute, over Lean's integers; no program stands here. -/
import Derived.WalkKit
namespace Go.Proofs.YtgfkmbdipemgmaaDoor
open Go.RowKit

/-- Four bytes as a word. -/
def be32 (a b c d : Int) : Int := bits .or .u32 (bits .or .u32 (bits .or .u32 (a * 16777216) (b * 65536)) (c * 256)) d
/-- A word turned to the right by n bits: p is 2^n, q is 2^(32-n). -/
def rr (p q x : Int) : Int := bits .or .u32 (x * q % 4294967296) (x / p)
def xr (a b : Int) : Int := bits .xor .u32 a b
def ad (a b : Int) : Int := (a + b) % 4294967296
def s0 (x : Int) : Int := xr (xr (rr 128 33554432 x) (rr 262144 16384 x)) (x / 8)
def s1 (x : Int) : Int := xr (xr (rr 131072 32768 x) (rr 524288 8192 x)) (x / 1024)
def S0 (x : Int) : Int := xr (xr (rr 4 1073741824 x) (rr 8192 524288 x)) (rr 4194304 1024 x)
def S1 (x : Int) : Int := xr (xr (rr 64 67108864 x) (rr 2048 2097152 x)) (rr 33554432 128 x)
def ch (e f g : Int) : Int := xr (bits .and .u32 e f) (bits .and .u32 (bits .xor .u32 (if IntKind.u32.signed = true then -1 else IntKind.u32.max) e) g)
def maj (a b c : Int) : Int := xr (xr (bits .and .u32 a b) (bits .and .u32 a c)) (bits .and .u32 b c)

/-- The words of a piece, as far as t of them. -/
def sch (p : Nat → Int) : Nat → List Int
  | 0 => []
  | t + 1 =>
    let l := sch p t
    l ++ [if t < 16 then be32 (p (4 * t)) (p (4 * t + 1)) (p (4 * t + 2)) (p (4 * t + 3))
      else ad (ad (ad (l.getD (t - 16) 0) (s0 (l.getD (t - 15) 0))) (l.getD (t - 7) 0)) (s1 (l.getD (t - 2) 0))]

def kon : List Int := [1116352408, 1899447441, 3049323471, 3921009573, 961987163, 1508970993, 2453635748, 2870763221, 3624381080, 310598401, 607225278, 1426881987, 1925078388, 2162078206, 2614888103, 3248222580, 3835390401, 4022224774, 264347078, 604807628, 770255983, 1249150122, 1555081692, 1996064986, 2554220882, 2821834349, 2952996808, 3210313671, 3336571891, 3584528711, 113926993, 338241895, 666307205, 773529912, 1294757372, 1396182291, 1695183700, 1986661051, 2177026350, 2456956037, 2730485921, 2820302411, 3259730800, 3345764771, 3516065817, 3600352804, 4094571909, 275423344, 430227734, 506948616, 659060556, 883997877, 958139571, 1322822218, 1537002063, 1747873779, 1955562222, 2024104815, 2227730452, 2361852424, 2428436474, 2756734187, 3204031479, 3329325298]

/-- The eight words behind t rounds. -/
def rnds (h w : Nat → Int) : Nat → List Int
  | 0 => [h 0, h 1, h 2, h 3, h 4, h 5, h 6, h 7]
  | t + 1 =>
    let v := rnds h w t
    let g := fun i => v.getD i 0
    let t1 := ad (ad (ad (ad (g 7) (S1 (g 4))) (ch (g 4) (g 5) (g 6))) (kon.getD t 0)) (w t)
    let t2 := ad (S0 (g 0)) (maj (g 0) (g 1) (g 2))
    [ad t1 t2, g 0, g 1, g 2, ad (g 3) t1, g 4, g 5, g 6]

/-- What a piece makes of eight words. -/
def pieceF (h p : Nat → Int) (i : Nat) : Int := ad (h i) ((rnds h (fun t => (sch p 64).getD t 0) 64).getD i 0)

theorem sch_length (p : Nat → Int) : ∀ t, (sch p t).length = t
  | 0 => rfl
  | t + 1 => by simp [sch, sch_length p t]

theorem sch_getD (p : Nat → Int) (t j : Nat) (h : j < t) : (sch p t).getD j 0 = (sch p (j + 1)).getD j 0 := by
  induction t with
  | zero => omega
  | succ t ih =>
    by_cases e : j = t
    · rw [e]
    · rw [← ih (by omega)]
      simp only [sch]
      simp only [List.getD_eq_getElem?_getD]
      rw [List.getElem?_append_left (by rw [sch_length]; omega)]

/-- The word of number t. -/
def wd (p : Nat → Int) (t : Nat) : Int := (sch p (t + 1)).getD t 0

theorem wd_lo (p : Nat → Int) (t : Nat) (h : t < 16) : wd p t = be32 (p (4 * t)) (p (4 * t + 1)) (p (4 * t + 2)) (p (4 * t + 3)) := by
  unfold wd
  simp only [sch]
  simp only [List.getD_eq_getElem?_getD]
  rw [List.getElem?_append_right (by rw [sch_length]; omega)]
  simp [sch_length, h]

theorem wd_hi (p : Nat → Int) (t : Nat) (h : 16 ≤ t) : wd p t = ad (ad (ad (wd p (t - 16)) (s0 (wd p (t - 15)))) (wd p (t - 7))) (s1 (wd p (t - 2))) := by
  have e : wd p t = ad (ad (ad ((sch p t).getD (t - 16) 0) (s0 ((sch p t).getD (t - 15) 0))) ((sch p t).getD (t - 7) 0)) (s1 ((sch p t).getD (t - 2) 0)) := by
    unfold wd
    conv => lhs; unfold sch
    simp only [List.getD_eq_getElem?_getD]
    rw [List.getElem?_append_right (by rw [sch_length]; omega)]
    simp only [sch_length, Nat.sub_self]
    simp [show ¬ t < 16 by omega]
  rw [e, sch_getD p t (t - 16) (by omega), sch_getD p t (t - 15) (by omega), sch_getD p t (t - 7) (by omega), sch_getD p t (t - 2) (by omega)]
  rfl

theorem rnds_congr (h w w' : Nat → Int) : ∀ t, (∀ j, j < t → w j = w' j) → rnds h w t = rnds h w' t
  | 0, _ => rfl
  | t + 1, e => by
    have i := rnds_congr h w w' t (fun j hj => e j (by omega))
    have j := e t (by omega)
    simp only [rnds, i, j]

theorem pieceF_wd (h p : Nat → Int) (i : Nat) : pieceF h p i = ad (h i) ((rnds h (wd p) 64).getD i 0) := by
  have e := rnds_congr h (fun t => (sch p 64).getD t 0) (wd p) 64 (fun j hj => sch_getD p 64 j hj)
  unfold pieceF
  exact congrArg (fun l : List Int => ad (h i) (l.getD i 0)) e

/-- A round, in the form in which a walk writes its sums. -/
theorem rnds_step (h w : Nat → Int) (k : Nat) (g0 g1 g2 g3 g4 g5 g6 g7 kk wk : Int) (HG : rnds h w k = [g0, g1, g2, g3, g4, g5, g6, g7]) (hk : kon.getD k 0 = kk) (hw : w k = wk) :
    rnds h w (k + 1) = [((g7 + S1 g4 + ch g4 g5 g6 + kk + wk) % 4294967296 + (S0 g0 + maj g0 g1 g2) % 4294967296) % 4294967296, g0, g1, g2,
      (g3 + (g7 + S1 g4 + ch g4 g5 g6 + kk + wk) % 4294967296) % 4294967296, g4, g5, g6] := by
  simp only [rnds, HG]
  rw [hk, hw]
  simp only [List.getD_cons_zero, List.getD_cons_succ]
  generalize S1 g4 = a
  generalize S0 g0 = b
  generalize ch g4 g5 g6 = c
  generalize maj g0 g1 g2 = d
  have e1 : ad (ad (ad (ad g7 a) c) kk) wk = (g7 + a + c + kk + wk) % 4294967296 := by unfold ad; omega
  rw [e1]
  have e2 : ad b d = (b + d) % 4294967296 := rfl
  rw [e2]
  rfl

theorem sch_congr {p q : Nat → Int} (e : ∀ j, j < 64 → p j = q j) : ∀ t, t ≤ 64 → sch p t = sch q t
  | 0, _ => rfl
  | t + 1, h => by
    have i := sch_congr e t (by omega)
    by_cases ht : t < 16
    · simp only [sch, i, if_pos ht, e (4 * t) (by omega), e (4 * t + 1) (by omega), e (4 * t + 2) (by omega), e (4 * t + 3) (by omega)]
    · simp only [sch, i, if_neg ht]

theorem pieceF_congr (h : Nat → Int) {p q : Nat → Int} (e : ∀ j, j < 64 → p j = q j) (i : Nat) : pieceF h p i = pieceF h q i := by
  have e1 := sch_congr e 64 (Nat.le_refl _)
  have e2 := rnds_congr h (fun t => (sch p 64).getD t 0) (fun t => (sch q 64).getD t 0) 64 (fun j _ => congrArg (fun l : List Int => l.getD j 0) e1)
  unfold pieceF
  exact congrArg (fun l : List Int => ad (h i) (l.getD i 0)) e2

/-- Byte number n of eight words. -/
def outF (h : Nat → Int) (n : Nat) : Int := h (n / 4) / 2 ^ (24 - 8 * (n % 4)) % 256

/-- The eight words behind k pieces of a text. -/
def hsF (h c : Nat → Int) : Nat → Nat → Int
  | 0 => h
  | k + 1 => pieceF (hsF h c k) (fun j => c (64 * k + j))

theorem hsF_congr (h : Nat → Int) {c d : Nat → Int} : ∀ k, (∀ j, j < 64 * k → c j = d j) → hsF h c k = hsF h d k
  | 0, _ => rfl
  | k + 1, e => by
    funext i
    unfold hsF
    rw [hsF_congr h k (fun j hj => e j (by omega))]
    exact pieceF_congr _ (fun j hj => e (64 * k + j) (by omega)) i

/-- How many noughts stand behind the byte 80. -/
def zer (m : Nat) : Nat := (119 - m % 64) % 64

/-- The last bytes of a text: m bytes that wait, 80, noughts, the number of all bits (n bytes). -/
def padF (c : Nat → Int) (m : Nat) (n : Int) (j : Nat) : Int :=
  if j < m then c j else if j = m then 128 else if j < m + 1 + zer m then 0 else 8 * n / 2 ^ (56 - 8 * (j - (m + 1 + zer m))) % 256

theorem padF_lo {c : Nat → Int} {m : Nat} {n : Int} {j : Nat} (h : j < m) : padF c m n j = c j := if_pos h
theorem padF_mid {c : Nat → Int} {m : Nat} {n : Int} : padF c m n m = 128 := by unfold padF; rw [if_neg (by omega), if_pos rfl]
theorem padF_zero {c : Nat → Int} {m : Nat} {n : Int} {j : Nat} (h : m < j) (h2 : j < m + 1 + zer m) : padF c m n j = 0 := by
  unfold padF; rw [if_neg (by omega), if_neg (by omega), if_pos h2]
theorem padF_bits {c : Nat → Int} {m : Nat} {n : Int} (i : Nat) : padF c m n (m + 1 + zer m + i) = 8 * n / 2 ^ (56 - 8 * i) % 256 := by
  unfold padF
  rw [if_neg (by omega), if_neg (by omega), if_neg (by omega), show m + 1 + zer m + i - (m + 1 + zer m) = i by omega]

theorem padF_nonneg {c : Nat → Int} {m : Nat} {n : Int} (h : ∀ j, 0 ≤ c j) (_hn : 0 ≤ n) (j : Nat) : 0 ≤ padF c m n j := by
  unfold padF
  split
  · exact h j
  · split
    · omega
    · split
      · omega
      · exact Int.emod_nonneg _ (by omega)
theorem padF_le {c : Nat → Int} {m : Nat} {n : Int} (h : ∀ j, c j ≤ 255) (j : Nat) : padF c m n j ≤ 255 := by
  unfold padF
  split
  · exact h j
  · split
    · omega
    · split
      · omega
      · have := Int.emod_lt_of_pos (8 * n / 2 ^ (56 - 8 * (j - (m + 1 + zer m)))) (b := 256) (by omega)
        omega

/-- The words at the start. -/
def h0F (i : Nat) : Int := [1779033703, 3144134277, 1013904242, 2773480762, 1359893119, 2600822924, 528734635, 1541459225].getD i 0

/-- The words behind a text of len bytes, as the program comes to them: whole pieces first, then what is left and the end. -/
def hvF (h f : Nat → Int) (m len : Nat) (n : Int) : Nat → Int :=
  hsF (hsF h f ((m + len) / 64)) (padF (fun j => f (64 * ((m + len) / 64) + j)) ((m + len) % 64) n) (((m + len) % 64 + 9 + zer ((m + len) % 64)) / 64)

/-- The value of len bytes. -/
def sumF (f : Nat → Int) (len : Nat) : Nat → Int := outF (hvF h0F f 0 len len)

/-- Each byte turned by c. -/
def turned (f : Nat → Int) (c : Int) (j : Nat) : Int := bits .xor .u8 (f j) c

/-- A key as a block of 64 bytes. -/
def keyF (kf : Nat → Int) (klen j : Nat) : Int := if klen ≤ 64 then (if j < klen then kf j else 0) else (if j < 32 then sumF kf klen j else 0)

/-- The mac of len bytes by a block. -/
def macB (k f : Nat → Int) (len : Nat) : Nat → Int :=
  outF (hvF (hsF h0F (turned k 92) 1) (outF (hvF (hsF h0F (turned k 54) 1) f 0 len (64 + (len : Int)))) 0 32 96)

theorem bits_u8 (op : BinOp) (a b : Int) : 0 ≤ bits op .u8 a b ∧ bits op .u8 a b ≤ 255 := by
  have h : ∀ r : BitVec IntKind.u8.bits, 0 ≤ IntKind.u8.wrap (r.toNat : Int) ∧ IntKind.u8.wrap (r.toNat : Int) ≤ 255 := fun r => by
    simp only [IntKind.wrap, IntKind.bits, IntKind.signed]; simp; omega
  unfold bits
  cases op <;> first | exact h _ | (simp; done)

theorem outF_bd (h : Nat → Int) (n : Nat) : 0 ≤ outF h n ∧ outF h n ≤ 255 := by
  unfold outF
  have := Int.emod_nonneg (h (n / 4) / 2 ^ (24 - 8 * (n % 4))) (b := 256) (by omega)
  have := Int.emod_lt_of_pos (h (n / 4) / 2 ^ (24 - 8 * (n % 4))) (b := 256) (by omega)
  omega
end Go.Proofs.YtgfkmbdipemgmaaDoor
