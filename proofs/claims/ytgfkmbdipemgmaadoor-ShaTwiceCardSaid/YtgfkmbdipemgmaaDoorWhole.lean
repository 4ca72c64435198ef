/- A text taken whole, padded, piece by piece: the same value as the program comes to. -/
import Derived.Test.YtgfkmbdipemgmaaDoorSpec
namespace Go.Proofs.YtgfkmbdipemgmaaDoor
open Go.RowKit

theorem hsF_add (h c : Nat → Int) (a : Nat) : ∀ b, hsF h c (a + b) = hsF (hsF h c a) (fun j => c (64 * a + j)) b
  | 0 => rfl
  | b + 1 => by
    show hsF h c ((a + b) + 1) = _
    unfold hsF
    rw [hsF_add h c a b]
    funext i
    refine pieceF_congr _ (fun j _ => ?_) i
    show c (64 * (a + b) + j) = c (64 * a + (64 * b + j))
    rw [show 64 * (a + b) + j = 64 * a + (64 * b + j) by omega]

theorem zer_mod (m q : Nat) (h : 64 * q ≤ m) : zer (m - 64 * q) = zer m := by
  unfold zer
  rw [show (m - 64 * q) % 64 = m % 64 by omega]

theorem padF_shift (f : Nat → Int) (m q : Nat) (n : Int) (h : 64 * q ≤ m) (j : Nat) : padF f m n (64 * q + j) = padF (fun j => f (64 * q + j)) (m - 64 * q) n j := by
  have hz := zer_mod m q h
  unfold padF
  rw [hz]
  by_cases h1 : 64 * q + j < m
  · rw [if_pos h1, if_pos (show j < m - 64 * q by omega)]
  · rw [if_neg h1, if_neg (show ¬ j < m - 64 * q by omega)]
    by_cases h2 : 64 * q + j = m
    · rw [if_pos h2, if_pos (show j = m - 64 * q by omega)]
    · rw [if_neg h2, if_neg (show ¬ j = m - 64 * q by omega)]
      by_cases h3 : 64 * q + j < m + 1 + zer m
      · rw [if_pos h3, if_pos (show j < m - 64 * q + 1 + zer m by omega)]
      · rw [if_neg h3, if_neg (show ¬ j < m - 64 * q + 1 + zer m by omega), show 64 * q + j - (m + 1 + zer m) = j - (m - 64 * q + 1 + zer m) by omega]

theorem hvF_whole (h f : Nat → Int) (len : Nat) (n : Int) : hsF h (padF f len n) ((len + 9 + zer len) / 64) = hvF h f 0 len n := by
  unfold hvF
  simp only [Nat.zero_add]
  have hz : zer (len % 64) = zer len := by unfold zer; rw [Nat.mod_mod]
  have hl : len - 64 * (len / 64) = len % 64 := by omega
  rw [hz, show (len + 9 + zer len) / 64 = len / 64 + (len % 64 + 9 + zer len) / 64 by omega, hsF_add]
  rw [hsF_congr h (c := padF f len n) (d := f) (len / 64) (fun j hj => padF_lo (by omega))]
  have e : (fun j => padF f len n (64 * (len / 64) + j)) = padF (fun j => f (64 * (len / 64) + j)) (len % 64) n := by
    funext j
    rw [padF_shift f len (len / 64) n (by omega) j, hl]
  rw [e]

theorem sumF_whole (f : Nat → Int) (len : Nat) : outF (hsF h0F (padF f len (len : Int)) ((len + 9 + zer len) / 64)) = sumF f len := by
  rw [hvF_whole]; rfl
end Go.Proofs.YtgfkmbdipemgmaaDoor
