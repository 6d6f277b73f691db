/-
  15 texts in one (merge.py): A ShStatsBuckets DsStatsBuckets B Eng35 C D E G I ShStatsHolds DsStatsHolds S Sa LawStatsHolds.
  Conditions: none. By an AI agent.
-/
import Derived.Test.YtplblfcofplcmaaQc3
import Derived.Test.YtplblfcofplcmaaChecked
import Derived.KernelRfl
import Derived.Test.YtplblfcofplcmaaRows
import Derived.WalkKit
import Derived.ProofKit
import Derived.OpenShut
import Derived.ShutString
import Derived.ChangeOld
import Derived.Below
import Derived.SizedLaws
import Derived.ChangeArms
import Derived.Carry

/-
  Chapter 26: the bucket of a number, the bounds of a bucket.
  Conditions: none. By an AI agent.
-/
set_option maxRecDepth 10000
set_option linter.unusedSimpArgs false
set_option linter.unusedVariables false
namespace Go.Proofs.Ytplblfcofplcmaa
open Go Eng

def lenN (x : Nat) : Nat := if x = 0 then 0 else Nat.log2 x + 1
theorem lenN_of {x b : Nat} (h1 : 2 ^ b ≤ x) (h2 : x < 2 ^ (b + 1)) : lenN x = b + 1 := by
  have hx : x ≠ 0 := by have := Nat.two_pow_pos b; omega
  unfold lenN
  rw [if_neg hx, (Nat.log2_eq_iff hx).2 ⟨h1, h2⟩]
theorem lenN_spec {x : Nat} (hx : x ≠ 0) : ∃ b, lenN x = b + 1 ∧ 2 ^ b ≤ x ∧ x < 2 ^ (b + 1) :=
  ⟨Nat.log2 x, by unfold lenN; rw [if_neg hx], ((Nat.log2_eq_iff hx).1 rfl).1, ((Nat.log2_eq_iff hx).1 rfl).2⟩
theorem lenN_div {x : Nat} (k : Nat) (h : 2 ^ k ≤ x) : lenN x = k + lenN (x / 2 ^ k) := by
  have hp := Nat.two_pow_pos k
  have hy : x / 2 ^ k ≠ 0 := by
    have : 1 ≤ x / 2 ^ k := (Nat.le_div_iff_mul_le hp).2 (by omega)
    omega
  obtain ⟨b, e, h1, h2⟩ := lenN_spec hy
  rw [e]
  have a1 : 2 ^ b * 2 ^ k ≤ x := (Nat.le_div_iff_mul_le hp).1 h1
  have a2 : x < 2 ^ (b + 1) * 2 ^ k := (Nat.div_lt_iff_lt_mul hp).1 h2
  rw [← Nat.pow_add] at a1 a2
  rw [show k + (b + 1) = (b + k) + 1 by omega]
  exact lenN_of a1 (by rw [show b + k + 1 = b + 1 + k by omega]; exact a2)

theorem tab8 : ∀ i : Fin 256, (bl (mk [0, 1, 2, 2, 3, 3, 3, 3, 4, 4, 4, 4, 4, 4, 4, 4, 5, 5, 5, 5, 5, 5, 5, 5, 5, 5, 5, 5, 5, 5, 5, 5, 6, 6, 6, 6, 6, 6, 6, 6, 6, 6, 6, 6, 6, 6, 6, 6, 6, 6, 6, 6, 6, 6, 6, 6, 6, 6, 6, 6, 6, 6, 6, 6, 7, 7, 7, 7, 7, 7, 7, 7, 7, 7, 7, 7, 7, 7, 7, 7, 7, 7, 7, 7, 7, 7, 7, 7, 7, 7, 7, 7, 7, 7, 7, 7, 7, 7, 7, 7, 7, 7, 7, 7, 7, 7, 7, 7, 7, 7, 7, 7, 7, 7, 7, 7, 7, 7, 7, 7, 7, 7, 7, 7, 7, 7, 7, 7, 8, 8, 8, 8, 8, 8, 8, 8, 8, 8, 8, 8, 8, 8, 8, 8, 8, 8, 8, 8, 8, 8, 8, 8, 8, 8, 8, 8, 8, 8, 8, 8, 8, 8, 8, 8, 8, 8, 8, 8, 8, 8, 8, 8, 8, 8, 8, 8, 8, 8, 8, 8, 8, 8, 8, 8, 8, 8, 8, 8, 8, 8, 8, 8, 8, 8, 8, 8, 8, 8, 8, 8, 8, 8, 8, 8, 8, 8, 8, 8, 8, 8, 8, 8, 8, 8, 8, 8, 8, 8, 8, 8, 8, 8, 8, 8, 8, 8, 8, 8, 8, 8, 8, 8, 8, 8, 8, 8, 8, 8, 8, 8, 8, 8, 8, 8, 8, 8, 8, 8, 8, 8, 8, 8, 8, 8, 8, 8]))[i.val]? = some (UInt8.ofNat (lenN i.val)) := by decide +kernel
theorem len8 : ∀ i : Fin 256, lenN i.val ≤ 8 := by decide +kernel
theorem idx_tab {s : ByteArray} {i : Int} (hs : ∀ i : Fin 256, (bl s)[i.val]? = some (UInt8.ofNat (lenN i.val))) (h : 0 ≤ i ∧ i < 256) : xindex Try.prog T.string (.string s) (.int .u8 i) = some (.int .u8 (lenN i.toNat)) := by
  have h0 := hs ⟨i.toNat, by omega⟩
  have h1 := len8 ⟨i.toNat, by omega⟩
  unfold xindex
  rw [show Try.prog.underlying T.string = some .string from Try.underlying9]
  simp only [h.1, if_true]
  rw [h0]
  simp only at h1
  simp only [Option.map_some, byteCell]
  congr 2
  rw [UInt8.toNat_ofNat']
  omega
theorem len8I {i : Int} (h : 0 ≤ i ∧ i < 256) : 0 ≤ (lenN i.toNat : Int) ∧ (lenN i.toNat : Int) ≤ 8 := by
  have h1 := len8 ⟨i.toNat, by omega⟩
  simp only at h1
  omega

theorem q_Len64 (x : Nat) (hx : x < 2199023255552) (H : AHeap) : CC F.math_bits_Len64 [.int .u64 (x : Int)] H = some (.int .i64 (lenN x), H) := by
  have ht := tab8
  have s32 : ∀ ox oy, xbin Try.prog .shr T.uint64 ox oy (.int .u64 (x : Int)) (.int .u64 32) = some (.int .u64 ((x : Int) / 4294967296)) := fun ox oy => shrP (by decide)
  have s16 : ∀ ox oy (y : Int), xbin Try.prog .shr T.uint64 ox oy (.int .u64 y) (.int .u64 16) = some (.int .u64 (y / 65536)) := fun ox oy y => shrP (by decide)
  have s8 : ∀ ox oy (y : Int), xbin Try.prog .shr T.uint64 ox oy (.int .u64 y) (.int .u64 8) = some (.int .u64 (y / 256)) := fun ox oy y => shrP (by decide)
  have cu : ∀ (y : Int) H, 0 ≤ y ∧ y < 256 → xconv Try.prog T.uint64 T.uint8 (.int .u64 y) H = some (.int .u8 y, H) := fun y H hy => by rw [show xconv Try.prog T.uint64 T.uint8 (.int .u64 y) H = _ from xconv_int Try.underlying48 Try.underlying5, wrap_u8 hy]
  have ci : ∀ (y : Int) H, 0 ≤ y ∧ y < 256 → xconv Try.prog T.uint8 T.int (.int .u8 y) H = some (.int .i64 y, H) := fun y H hy => by rw [show xconv Try.prog T.uint8 T.int (.int .u8 y) H = _ from xconv_int Try.underlying5 Try.underlying3, wrap_i64 (by omega)]
  by_cases h1 : 4294967296 ≤ x
  · have h1' : (4294967296 : Int) ≤ (x : Int) := by omega
    have h2' : ¬ (65536 : Int) ≤ (x : Int) / 4294967296 := by omega
    obtain ⟨R, hR⟩ : ∃ R, lenN x = R := ⟨_, rfl⟩
    have hR2 := hR; rw [lenN_div 32 h1] at hR2
    rw [hR]
    by_cases h3 : 256 ≤ x / 4294967296
    · have h3' : (256 : Int) ≤ (x : Int) / 4294967296 := by omega
      have hy : 0 ≤ (x : Int) / 4294967296 / 256 ∧ (x : Int) / 4294967296 / 256 < 256 := by omega
      have hz := len8I hy
      have e : lenN (x / 2 ^ 32) = 8 + lenN ((x : Int) / 4294967296 / 256).toNat := by rw [lenN_div 8 h3]; rfl
      apply pure_of _ (d_math_bits_Len64 _ H) rfl
      rotate_left 2
      · simp (disch := first | with_reducible rfl | assumption | omega | rfl | (simp only [go_sem]; first | done | omega)) only [go_sem, ↓reduceIte, reduceCtorEq, Nat.reduceEqDiff, Nat.reduceAdd, Nat.reduceSub, Nat.reduceMul, Nat.reduceDiv, Nat.reduceMod, Nat.reduceLeDiff, Nat.reduceLT, Nat.reduceBEq, Int.reduceEq, Int.reduceBEq, Int.reduceBNe, Int.reduceLT, Int.reduceLE, Int.reduceAdd, Int.reduceSub, Int.reduceNeg, Int.reduceToNat, Int.reducePow, Nat.reducePow, Int.reduceMul, Int.reduceDiv, ↓s_math_bits_Len64, s32, s8, cu, ci, idx_tab ht hy, h1', h2', h3', hy, hz]
        have hE : (R : Int) = 40 + (lenN ((x : Int) / 4294967296 / 256).toNat : Int) := by rw [e] at hR2; omega
        rw [hE]
      · (repeat (first | exact Fr.refl _ | refine Fr.push ?_ _ | refine Fr.set ?_ _ _ (by intro h; first | omega | (simp only [go_sem] at h; omega))))
    · have h3' : ¬ (256 : Int) ≤ (x : Int) / 4294967296 := by omega
      have hy : 0 ≤ (x : Int) / 4294967296 ∧ (x : Int) / 4294967296 < 256 := by omega
      have hz := len8I hy
      have e : lenN (x / 2 ^ 32) = lenN ((x : Int) / 4294967296).toNat := by congr 1
      apply pure_of _ (d_math_bits_Len64 _ H) rfl
      rotate_left 2
      · simp (disch := first | with_reducible rfl | assumption | omega | rfl | (simp only [go_sem]; first | done | omega)) only [go_sem, ↓reduceIte, reduceCtorEq, Nat.reduceEqDiff, Nat.reduceAdd, Nat.reduceSub, Nat.reduceMul, Nat.reduceDiv, Nat.reduceMod, Nat.reduceLeDiff, Nat.reduceLT, Nat.reduceBEq, Int.reduceEq, Int.reduceBEq, Int.reduceBNe, Int.reduceLT, Int.reduceLE, Int.reduceAdd, Int.reduceSub, Int.reduceNeg, Int.reduceToNat, Int.reducePow, Nat.reducePow, Int.reduceMul, Int.reduceDiv, ↓s_math_bits_Len64, s32, s8, cu, ci, idx_tab ht hy, h1', h2', h3', hy, hz]
        have hE : (R : Int) = 32 + (lenN ((x : Int) / 4294967296).toNat : Int) := by rw [e] at hR2; omega
        rw [hE]
      · (repeat (first | exact Fr.refl _ | refine Fr.push ?_ _ | refine Fr.set ?_ _ _ (by intro h; first | omega | (simp only [go_sem] at h; omega))))
  · have h1' : ¬ (4294967296 : Int) ≤ (x : Int) := by omega
    by_cases h2 : 65536 ≤ x
    · have h2' : (65536 : Int) ≤ (x : Int) := by omega
      obtain ⟨R, hR⟩ : ∃ R, lenN x = R := ⟨_, rfl⟩
      have hR2 := hR; rw [lenN_div 16 h2] at hR2
      rw [hR]
      by_cases h3 : 256 ≤ x / 65536
      · have h3' : (256 : Int) ≤ (x : Int) / 65536 := by omega
        have hy : 0 ≤ (x : Int) / 65536 / 256 ∧ (x : Int) / 65536 / 256 < 256 := by omega
        have hz := len8I hy
        have e : lenN (x / 2 ^ 16) = 8 + lenN ((x : Int) / 65536 / 256).toNat := by rw [lenN_div 8 h3]; rfl
        apply pure_of _ (d_math_bits_Len64 _ H) rfl
        rotate_left 2
        · simp (disch := first | with_reducible rfl | assumption | omega | rfl | (simp only [go_sem]; first | done | omega)) only [go_sem, ↓reduceIte, reduceCtorEq, Nat.reduceEqDiff, Nat.reduceAdd, Nat.reduceSub, Nat.reduceMul, Nat.reduceDiv, Nat.reduceMod, Nat.reduceLeDiff, Nat.reduceLT, Nat.reduceBEq, Int.reduceEq, Int.reduceBEq, Int.reduceBNe, Int.reduceLT, Int.reduceLE, Int.reduceAdd, Int.reduceSub, Int.reduceNeg, Int.reduceToNat, Int.reducePow, Nat.reducePow, Int.reduceMul, Int.reduceDiv, ↓s_math_bits_Len64, s16, s8, cu, ci, idx_tab ht hy, h1', h2', h3', hy, hz]
          have hE : (R : Int) = 24 + (lenN ((x : Int) / 65536 / 256).toNat : Int) := by rw [e] at hR2; omega
          rw [hE]
        · (repeat (first | exact Fr.refl _ | refine Fr.push ?_ _ | refine Fr.set ?_ _ _ (by intro h; first | omega | (simp only [go_sem] at h; omega))))
      · have h3' : ¬ (256 : Int) ≤ (x : Int) / 65536 := by omega
        have hy : 0 ≤ (x : Int) / 65536 ∧ (x : Int) / 65536 < 256 := by omega
        have hz := len8I hy
        have e : lenN (x / 2 ^ 16) = lenN ((x : Int) / 65536).toNat := by congr 1
        apply pure_of _ (d_math_bits_Len64 _ H) rfl
        rotate_left 2
        · simp (disch := first | with_reducible rfl | assumption | omega | rfl | (simp only [go_sem]; first | done | omega)) only [go_sem, ↓reduceIte, reduceCtorEq, Nat.reduceEqDiff, Nat.reduceAdd, Nat.reduceSub, Nat.reduceMul, Nat.reduceDiv, Nat.reduceMod, Nat.reduceLeDiff, Nat.reduceLT, Nat.reduceBEq, Int.reduceEq, Int.reduceBEq, Int.reduceBNe, Int.reduceLT, Int.reduceLE, Int.reduceAdd, Int.reduceSub, Int.reduceNeg, Int.reduceToNat, Int.reducePow, Nat.reducePow, Int.reduceMul, Int.reduceDiv, ↓s_math_bits_Len64, s16, s8, cu, ci, idx_tab ht hy, h1', h2', h3', hy, hz]
          have hE : (R : Int) = 16 + (lenN ((x : Int) / 65536).toNat : Int) := by rw [e] at hR2; omega
          rw [hE]
        · (repeat (first | exact Fr.refl _ | refine Fr.push ?_ _ | refine Fr.set ?_ _ _ (by intro h; first | omega | (simp only [go_sem] at h; omega))))
    · have h2' : ¬ (65536 : Int) ≤ (x : Int) := by omega
      by_cases h3 : 256 ≤ x
      · have h3' : (256 : Int) ≤ (x : Int) := by omega
        have hy : 0 ≤ (x : Int) / 256 ∧ (x : Int) / 256 < 256 := by omega
        have hz := len8I hy
        have e : lenN x = 8 + lenN ((x : Int) / 256).toNat := by rw [lenN_div 8 h3]; rfl
        apply pure_of _ (d_math_bits_Len64 _ H) rfl
        rotate_left 2
        · simp (disch := first | with_reducible rfl | assumption | omega | rfl | (simp only [go_sem]; first | done | omega)) only [go_sem, ↓reduceIte, reduceCtorEq, Nat.reduceEqDiff, Nat.reduceAdd, Nat.reduceSub, Nat.reduceMul, Nat.reduceDiv, Nat.reduceMod, Nat.reduceLeDiff, Nat.reduceLT, Nat.reduceBEq, Int.reduceEq, Int.reduceBEq, Int.reduceBNe, Int.reduceLT, Int.reduceLE, Int.reduceAdd, Int.reduceSub, Int.reduceNeg, Int.reduceToNat, Int.reducePow, Nat.reducePow, Int.reduceMul, Int.reduceDiv, ↓s_math_bits_Len64, s8, cu, ci, idx_tab ht hy, h1', h2', h3', hy, hz]
          have hE : ((lenN x : Nat) : Int) = 8 + (lenN ((x : Int) / 256).toNat : Int) := by rw [e]; omega
          rw [hE]
        · (repeat (first | exact Fr.refl _ | refine Fr.push ?_ _ | refine Fr.set ?_ _ _ (by intro h; first | omega | (simp only [go_sem] at h; omega))))
      · have h3' : ¬ (256 : Int) ≤ (x : Int) := by omega
        have hy : 0 ≤ (x : Int) ∧ (x : Int) < 256 := by omega
        have hz := len8I hy
        have e : lenN x = lenN (x : Int).toNat := by congr 1
        apply pure_of _ (d_math_bits_Len64 _ H) rfl
        rotate_left 2
        · simp (disch := first | with_reducible rfl | assumption | omega | rfl | (simp only [go_sem]; first | done | omega)) only [go_sem, ↓reduceIte, reduceCtorEq, Nat.reduceEqDiff, Nat.reduceAdd, Nat.reduceSub, Nat.reduceMul, Nat.reduceDiv, Nat.reduceMod, Nat.reduceLeDiff, Nat.reduceLT, Nat.reduceBEq, Int.reduceEq, Int.reduceBEq, Int.reduceBNe, Int.reduceLT, Int.reduceLE, Int.reduceAdd, Int.reduceSub, Int.reduceNeg, Int.reduceToNat, Int.reducePow, Nat.reducePow, Int.reduceMul, Int.reduceDiv, ↓s_math_bits_Len64, cu, ci, idx_tab ht hy, h1', h2', h3', hy, hz, Int.zero_add, Int.toNat_natCast]
          rfl
        · (repeat (first | exact Fr.refl _ | refine Fr.push ?_ _ | refine Fr.set ?_ _ _ (by intro h; first | omega | (simp only [go_sem] at h; omega))))

theorem q_Len (x : Nat) (hx : x < 2199023255552) (H : AHeap) : CC F.math_bits_Len [.int .u64 (x : Int)] H = some (.int .i64 (lenN x), H) := by
  apply pure_of _ (d_math_bits_Len _ H) rfl
  rotate_left 2
  · simp (disch := first | with_reducible rfl | assumption | omega | rfl | (simp only [go_sem]; first | done | omega)) only [go_sem, ↓reduceIte, reduceCtorEq, Nat.reduceEqDiff, Nat.reduceAdd, Nat.reduceSub, Nat.reduceMul, Nat.reduceDiv, Nat.reduceMod, Nat.reduceLeDiff, Nat.reduceLT, Nat.reduceBEq, Int.reduceEq, Int.reduceBEq, Int.reduceBNe, Int.reduceLT, Int.reduceLE, Int.reduceAdd, Int.reduceSub, Int.reduceNeg, Int.reduceToNat, Int.reducePow, Nat.reducePow, Int.reduceMul, Int.reduceDiv, ↓s_math_bits_Len, enterK_eq (q_Len64 x hx H)]
    rfl
  · (repeat (first | exact Fr.refl _ | refine Fr.push ?_ _ | refine Fr.set ?_ _ _ (by intro h; first | omega | (simp only [go_sem] at h; omega))))

theorem q_Bucket (x : Nat) (hx : x ≤ 1099511627776) (H : AHeap) : CC F.stats_Bucket [.int .i64 (x : Int)] H = some (.tuple ⟨[.int .i64 (lenN x), .int .i64 0]⟩, H) := by
  have h1 : ¬ (x : Int) < 0 := by omega
  have h2 : ¬ (1099511627776 : Int) < (x : Int) := by omega
  have cu : ∀ H, xconv Try.prog T.int T.uint (.int .i64 (x : Int)) H = some (.int .u64 (x : Int), H) := fun H => by rw [show xconv Try.prog T.int T.uint (.int .i64 (x : Int)) H = _ from xconv_int Try.underlying3 Try.underlying94, wrap_u64 (by omega)]
  apply pure_of _ (d_stats_Bucket _ H) rfl
  rotate_left 2
  · simp (disch := first | with_reducible rfl | assumption | omega | rfl | (simp only [go_sem]; first | done | omega)) only [go_sem, ↓reduceIte, reduceCtorEq, Nat.reduceEqDiff, Nat.reduceAdd, Nat.reduceSub, Nat.reduceMul, Nat.reduceDiv, Nat.reduceMod, Nat.reduceLeDiff, Nat.reduceLT, Nat.reduceBEq, Int.reduceEq, Int.reduceBEq, Int.reduceBNe, Int.reduceLT, Int.reduceLE, Int.reduceAdd, Int.reduceSub, Int.reduceNeg, Int.reduceToNat, Int.reducePow, Nat.reducePow, Int.reduceMul, Int.reduceDiv, ↓s_stats_Bucket, h1, h2, cu, enterK_eq (q_Len x (by omega) H)]
    rfl
  · (repeat (first | exact Fr.refl _ | refine Fr.push ?_ _ | refine Fr.set ?_ _ _ (by intro h; first | omega | (simp only [go_sem] at h; omega))))
theorem q_Bucket_bad (n : Int) (h : n < 0 ∨ 1099511627776 < n) (H : AHeap) : CC F.stats_Bucket [.int .i64 n] H = some (.tuple ⟨[.int .i64 0, .int .i64 2]⟩, H) := by
  by_cases h1 : n < 0
  · apply pure_of _ (d_stats_Bucket _ H) rfl
    rotate_left 2
    · simp (disch := first | with_reducible rfl | assumption | omega | rfl | (simp only [go_sem]; first | done | omega)) only [go_sem, ↓reduceIte, reduceCtorEq, Nat.reduceEqDiff, Nat.reduceAdd, Nat.reduceSub, Nat.reduceMul, Nat.reduceDiv, Nat.reduceMod, Nat.reduceLeDiff, Nat.reduceLT, Nat.reduceBEq, Int.reduceEq, Int.reduceBEq, Int.reduceBNe, Int.reduceLT, Int.reduceLE, Int.reduceAdd, Int.reduceSub, Int.reduceNeg, Int.reduceToNat, Int.reducePow, Nat.reducePow, Int.reduceMul, Int.reduceDiv, ↓s_stats_Bucket, h1]
      rfl
    · (repeat (first | exact Fr.refl _ | refine Fr.push ?_ _ | refine Fr.set ?_ _ _ (by intro h; first | omega | (simp only [go_sem] at h; omega))))
  · have h2 : 1099511627776 < n := by omega
    apply pure_of _ (d_stats_Bucket _ H) rfl
    rotate_left 2
    · simp (disch := first | with_reducible rfl | assumption | omega | rfl | (simp only [go_sem]; first | done | omega)) only [go_sem, ↓reduceIte, reduceCtorEq, Nat.reduceEqDiff, Nat.reduceAdd, Nat.reduceSub, Nat.reduceMul, Nat.reduceDiv, Nat.reduceMod, Nat.reduceLeDiff, Nat.reduceLT, Nat.reduceBEq, Int.reduceEq, Int.reduceBEq, Int.reduceBNe, Int.reduceLT, Int.reduceLE, Int.reduceAdd, Int.reduceSub, Int.reduceNeg, Int.reduceToNat, Int.reducePow, Nat.reducePow, Int.reduceMul, Int.reduceDiv, ↓s_stats_Bucket, h1, h2]
      rfl
    · (repeat (first | exact Fr.refl _ | refine Fr.push ?_ _ | refine Fr.set ?_ _ _ (by intro h; first | omega | (simp only [go_sem] at h; omega))))

def loN (b : Nat) : Nat := if b = 0 then 0 else 2 ^ (b - 1)
def hiN (b : Nat) : Nat := if b = 0 then 0 else min (2 ^ b - 1) 1099511627776

theorem pow41 {b : Nat} (h : b ≤ 41) : 2 ^ b ≤ 2199023255552 := Nat.pow_le_pow_right (by decide) h
theorem shl1 {b : Nat} (h : b ≤ 41) {ox oy : Operand} {i : Int} (hi : i = (b : Int)) : xbin Try.prog .shl T.int ox oy (.int .i64 1) (.int .i64 i) = some (.int .i64 ((2 ^ b : Nat) : Int)) := by
  subst hi
  have := pow41 h
  rw [shlP (by simp only [IntKind.bits]; omega)]
  have e : (1 : Int) * 2 ^ (b : Int).toNat = ((2 ^ b : Nat) : Int) := by rw [Int.one_mul, Int.toNat_natCast, Int.natCast_pow]; rfl
  rw [e]
  generalize 2 ^ b = q at *
  rw [wrap_i64 (by omega)]

theorem q_Bounds (b : Nat) (hb : b ≤ 41) (H : AHeap) : CC F.stats_Bounds [.int .i64 (b : Int)] H = some (.tuple ⟨[.int .i64 (loN b), .int .i64 (hiN b), .int .i64 0]⟩, H) := by
  have h1 : ¬ (b : Int) < 0 := by omega
  have h2 : ¬ (42 : Int) ≤ (b : Int) := by omega
  by_cases h0 : b = 0
  · subst h0
    apply pure_of _ (d_stats_Bounds _ H) rfl
    rotate_left 2
    · simp (disch := first | with_reducible rfl | assumption | omega | rfl | (simp only [go_sem]; first | done | omega)) only [go_sem, ↓reduceIte, reduceCtorEq, Nat.reduceEqDiff, Nat.reduceAdd, Nat.reduceSub, Nat.reduceMul, Nat.reduceDiv, Nat.reduceMod, Nat.reduceLeDiff, Nat.reduceLT, Nat.reduceBEq, Int.reduceEq, Int.reduceBEq, Int.reduceBNe, Int.reduceLT, Int.reduceLE, Int.reduceAdd, Int.reduceSub, Int.reduceNeg, Int.reduceToNat, Int.reducePow, Nat.reducePow, Int.reduceMul, Int.reduceDiv, ↓s_stats_Bounds, Int.natCast_zero, Int.lt_irrefl, decide_false]
      rfl
    · (repeat (first | exact Fr.refl _ | refine Fr.push ?_ _ | refine Fr.set ?_ _ _ (by intro h; first | omega | (simp only [go_sem] at h; omega))))
  · have h3 : ¬ (b : Int) = 0 := by omega
    have e1 := fun ox oy => shl1 (b := b - 1) (by omega) (ox := ox) (oy := oy) (i := (b : Int) - 1) (by omega)
    have e2 := fun ox oy => shl1 (b := b) hb (ox := ox) (oy := oy) rfl
    have p := pow41 hb
    have p0 := Nat.two_pow_pos b
    have hh : (hiN b : Int) = min (((2 ^ b : Nat) : Int) - 1) 1099511627776 := by unfold hiN; rw [if_neg h0]; omega
    have hl : (loN b : Int) = ((2 ^ (b - 1) : Nat) : Int) := by unfold loN; rw [if_neg h0]
    rw [hh, hl]
    generalize 2 ^ b = p2 at *
    apply pure_of _ (d_stats_Bounds _ H) rfl
    rotate_left 2
    · simp (disch := first | with_reducible rfl | assumption | omega | rfl | (simp only [go_sem]; first | done | omega)) only [go_sem, ↓reduceIte, reduceCtorEq, Nat.reduceEqDiff, Nat.reduceAdd, Nat.reduceSub, Nat.reduceMul, Nat.reduceDiv, Nat.reduceMod, Nat.reduceLeDiff, Nat.reduceLT, Nat.reduceBEq, Int.reduceEq, Int.reduceBEq, Int.reduceBNe, Int.reduceLT, Int.reduceLE, Int.reduceAdd, Int.reduceSub, Int.reduceNeg, Int.reduceToNat, Int.reducePow, Nat.reducePow, Int.reduceMul, Int.reduceDiv, ↓s_stats_Bounds, h1, h2, h3, e1, e2]
      rfl
    · (repeat (first | exact Fr.refl _ | refine Fr.push ?_ _ | refine Fr.set ?_ _ _ (by intro h; first | omega | (simp only [go_sem] at h; omega))))
theorem q_Bounds_bad (n : Int) (h : n < 0 ∨ 41 < n) (H : AHeap) : CC F.stats_Bounds [.int .i64 n] H = some (.tuple ⟨[.int .i64 0, .int .i64 0, .int .i64 2]⟩, H) := by
  by_cases h1 : n < 0
  · apply pure_of _ (d_stats_Bounds _ H) rfl
    rotate_left 2
    · simp (disch := first | with_reducible rfl | assumption | omega | rfl | (simp only [go_sem]; first | done | omega)) only [go_sem, ↓reduceIte, reduceCtorEq, Nat.reduceEqDiff, Nat.reduceAdd, Nat.reduceSub, Nat.reduceMul, Nat.reduceDiv, Nat.reduceMod, Nat.reduceLeDiff, Nat.reduceLT, Nat.reduceBEq, Int.reduceEq, Int.reduceBEq, Int.reduceBNe, Int.reduceLT, Int.reduceLE, Int.reduceAdd, Int.reduceSub, Int.reduceNeg, Int.reduceToNat, Int.reducePow, Nat.reducePow, Int.reduceMul, Int.reduceDiv, ↓s_stats_Bounds, h1]
      rfl
    · (repeat (first | exact Fr.refl _ | refine Fr.push ?_ _ | refine Fr.set ?_ _ _ (by intro h; first | omega | (simp only [go_sem] at h; omega))))
  · have h2 : 42 ≤ n := by omega
    apply pure_of _ (d_stats_Bounds _ H) rfl
    rotate_left 2
    · simp (disch := first | with_reducible rfl | assumption | omega | rfl | (simp only [go_sem]; first | done | omega)) only [go_sem, ↓reduceIte, reduceCtorEq, Nat.reduceEqDiff, Nat.reduceAdd, Nat.reduceSub, Nat.reduceMul, Nat.reduceDiv, Nat.reduceMod, Nat.reduceLeDiff, Nat.reduceLT, Nat.reduceBEq, Int.reduceEq, Int.reduceBEq, Int.reduceBNe, Int.reduceLT, Int.reduceLE, Int.reduceAdd, Int.reduceSub, Int.reduceNeg, Int.reduceToNat, Int.reducePow, Nat.reducePow, Int.reduceMul, Int.reduceDiv, ↓s_stats_Bounds, h1, h2]
      rfl
    · (repeat (first | exact Fr.refl _ | refine Fr.push ?_ _ | refine Fr.set ?_ _ _ (by intro h; first | omega | (simp only [go_sem] at h; omega))))

/-! ### the reference's -/
theorem l_rBounds (b : Nat) (hb : b ≤ 41) (H : AHeap) (k : K) : ∀ (d i n : Nat), i + d = b → 1 ≤ i → n * 2 ^ d ≤ 2199023255552 →
    l_ref26_Bounds_0 (.int .i64 (b : Int)) (.int .i64 (n : Int)) (.int .i64 (i : Int)) H (blkK [4] 0 k) = k .normal [(4, .int .i64 ((n * 2 ^ d : Nat) : Int))] H
  | 0, i, n, hi, h1, hn => by
    have h : ¬ (i : Int) < (b : Int) := by omega
    rw [r_ref26_Bounds_0]
    simp (disch := first | with_reducible rfl | assumption | omega | rfl | (simp only [go_sem]; first | done | omega)) only [go_sem, ↓reduceIte, reduceCtorEq, Nat.reduceEqDiff, Nat.reduceAdd, Nat.reduceSub, Nat.reduceMul, Nat.reduceDiv, Nat.reduceMod, Nat.reduceLeDiff, Nat.reduceLT, Nat.reduceBEq, Int.reduceEq, Int.reduceBEq, Int.reduceBNe, Int.reduceLT, Int.reduceLE, Int.reduceAdd, Int.reduceSub, Int.reduceNeg, Int.reduceToNat, Int.reducePow, Nat.reducePow, Int.reduceMul, Int.reduceDiv, ↓s_ref26_Bounds_b0, h, Nat.pow_zero, Nat.mul_one]
  | d + 1, i, n, hi, h1, hn => by
    have h : (i : Int) < (b : Int) := by omega
    have e : n * 2 ^ (d + 1) = 2 * n * 2 ^ d := by rw [Nat.pow_succ, Nat.mul_comm 2 n, Nat.mul_assoc, Nat.mul_comm 2]
    have hn2 : 2 * n ≤ 2199023255552 := Nat.le_trans (Nat.le_mul_of_pos_right _ (Nat.two_pow_pos d)) (by rw [← e]; exact hn)
    have ih := l_rBounds b hb H k d (i + 1) (2 * n) (by omega) (by omega) (by rw [← e]; exact hn)
    rw [← e] at ih
    rw [Int.natCast_add, Int.natCast_mul] at ih
    rw [r_ref26_Bounds_0]
    simp (disch := first | with_reducible rfl | assumption | omega | rfl | (simp only [go_sem]; first | done | omega)) only [go_sem, ↓reduceIte, reduceCtorEq, Nat.reduceEqDiff, Nat.reduceAdd, Nat.reduceSub, Nat.reduceMul, Nat.reduceDiv, Nat.reduceMod, Nat.reduceLeDiff, Nat.reduceLT, Nat.reduceBEq, Int.reduceEq, Int.reduceBEq, Int.reduceBNe, Int.reduceLT, Int.reduceLE, Int.reduceAdd, Int.reduceSub, Int.reduceNeg, Int.reduceToNat, Int.reducePow, Nat.reducePow, Int.reduceMul, Int.reduceDiv, ↓s_ref26_Bounds_b0, h]
    exact ih
theorem q_rBounds (b : Nat) (hb : b ≤ 41) (H : AHeap) : CC F.ref26_Bounds [.int .i64 (b : Int)] H = some (.tuple ⟨[.int .i64 (loN b), .int .i64 (hiN b)]⟩, H) := by
  by_cases h0 : b = 0
  · subst h0
    apply pure_of _ (d_ref26_Bounds _ H) rfl
    rotate_left 2
    · simp (disch := first | with_reducible rfl | assumption | omega | rfl | (simp only [go_sem]; first | done | omega)) only [go_sem, ↓reduceIte, reduceCtorEq, Nat.reduceEqDiff, Nat.reduceAdd, Nat.reduceSub, Nat.reduceMul, Nat.reduceDiv, Nat.reduceMod, Nat.reduceLeDiff, Nat.reduceLT, Nat.reduceBEq, Int.reduceEq, Int.reduceBEq, Int.reduceBNe, Int.reduceLT, Int.reduceLE, Int.reduceAdd, Int.reduceSub, Int.reduceNeg, Int.reduceToNat, Int.reducePow, Nat.reducePow, Int.reduceMul, Int.reduceDiv, ↓s_ref26_Bounds, Int.natCast_zero]
      rfl
    · (repeat (first | exact Fr.refl _ | refine Fr.push ?_ _ | refine Fr.set ?_ _ _ (by intro h; first | omega | (simp only [go_sem] at h; omega))))
  · have h3 : ¬ (b : Int) = 0 := by omega
    have p := pow41 (b := b - 1) (by omega)
    have hl := l_rBounds b hb H
    have hp : 2 ^ b = 2 * 2 ^ (b - 1) := by rw [← Nat.pow_succ']; congr 1; omega
    have hh : (hiN b : Int) = min (2 * ((2 ^ (b - 1) : Nat) : Int) - 1) 1099511627776 := by
      have := Nat.two_pow_pos (b - 1)
      unfold hiN
      rw [if_neg h0, hp]
      clear hl
      generalize 2 ^ (b - 1) = q at *
      omega
    have hl' : (loN b : Int) = ((2 ^ (b - 1) : Nat) : Int) := by unfold loN; rw [if_neg h0]
    have hlp := pow41 hb
    rw [hh, hl']
    have hL : ∀ k, l_ref26_Bounds_0 (.int .i64 (b : Int)) (.int .i64 1) (.int .i64 1) H (blkK [4] 0 k) = k .normal [(4, .int .i64 ((2 ^ (b - 1) : Nat) : Int))] H := fun k => by
      have := l_rBounds b hb H k (b - 1) 1 1 (by omega) (Nat.le_refl _) (by omega)
      rw [Nat.one_mul] at this
      exact this
    generalize 2 ^ (b - 1) = p2 at *
    apply pure_of _ (d_ref26_Bounds _ H) rfl
    rotate_left 2
    · simp (disch := first | with_reducible rfl | assumption | omega | rfl | (simp only [go_sem]; first | done | omega)) only [go_sem, ↓reduceIte, reduceCtorEq, Nat.reduceEqDiff, Nat.reduceAdd, Nat.reduceSub, Nat.reduceMul, Nat.reduceDiv, Nat.reduceMod, Nat.reduceLeDiff, Nat.reduceLT, Nat.reduceBEq, Int.reduceEq, Int.reduceBEq, Int.reduceBNe, Int.reduceLT, Int.reduceLE, Int.reduceAdd, Int.reduceSub, Int.reduceNeg, Int.reduceToNat, Int.reducePow, Nat.reducePow, Int.reduceMul, Int.reduceDiv, ↓s_ref26_Bounds, h3, hL]
      rfl
    · (repeat (first | exact Fr.refl _ | refine Fr.push ?_ _ | refine Fr.set ?_ _ _ (by intro h; first | omega | (simp only [go_sem] at h; omega))))

theorem in_bucket {x b : Nat} (hx : x ≤ 1099511627776) (hb : b ≤ 41) : (loN b ≤ x ∧ x ≤ hiN b) ↔ lenN x = b := by
  unfold loN hiN
  by_cases h0 : b = 0
  · subst h0
    simp only [if_true]
    constructor
    · intro h
      have : x = 0 := by omega
      subst this; rfl
    · intro h
      unfold lenN at h
      by_cases hx0 : x = 0
      · omega
      · rw [if_neg hx0] at h; omega
  · rw [if_neg h0, if_neg h0]
    obtain ⟨c, rfl⟩ : ∃ c, b = c + 1 := ⟨b - 1, by omega⟩
    rw [Nat.add_sub_cancel]
    have hp := Nat.two_pow_pos (c + 1)
    constructor
    · rintro ⟨h1, h2⟩
      exact lenN_of h1 (by omega)
    · intro h
      by_cases hx0 : x = 0
      · subst hx0; cases h
      · obtain ⟨c', e, h1, h2⟩ := lenN_spec hx0
        obtain rfl : c = c' := by omega
        exact ⟨h1, by omega⟩
theorem lenN_le {x : Nat} (hx : x ≤ 1099511627776) : lenN x ≤ 41 := by
  by_cases hx0 : x = 0
  · subst hx0; decide
  · obtain ⟨c, e, h1, h2⟩ := lenN_spec hx0
    have : c < 41 := by
      by_cases h : c < 41
      · exact h
      · exfalso
        have := Nat.pow_le_pow_right (n := 2) (by decide) (show 41 ≤ c by omega)
        omega
    omega

theorem l_rBucket (x : Nat) (hx : x ≤ 1099511627776) (H : AHeap) (k : K) : ∀ (d b : Nat), b + d = lenN x →
    l_ref26_Bucket_0 (.int .i64 (x : Int)) (.int .i64 (b : Int)) H (blkK [] 0 (seqK (fun _ h2 => k .ret [(2, .int .i64 (-1))] h2) k)) = k .ret [(2, .int .i64 (lenN x))] H
  | 0, b, hd => by
    have hb : b ≤ 41 := by have := lenN_le hx; omega
    have h : (b : Int) < 42 := by omega
    have hin := (in_bucket hx hb).2 (by omega)
    have h1 : ((loN b : Nat) : Int) ≤ (x : Int) := by omega
    have h2 : (x : Int) ≤ ((hiN b : Nat) : Int) := by omega
    have e : lenN x = b := by omega
    rw [r_ref26_Bucket_0, e]
    simp (disch := first | with_reducible rfl | assumption | omega | rfl | (simp only [go_sem]; first | done | omega)) only [go_sem, ↓reduceIte, reduceCtorEq, Nat.reduceEqDiff, Nat.reduceAdd, Nat.reduceSub, Nat.reduceMul, Nat.reduceDiv, Nat.reduceMod, Nat.reduceLeDiff, Nat.reduceLT, Nat.reduceBEq, Int.reduceEq, Int.reduceBEq, Int.reduceBNe, Int.reduceLT, Int.reduceLE, Int.reduceAdd, Int.reduceSub, Int.reduceNeg, Int.reduceToNat, Int.reducePow, Nat.reducePow, Int.reduceMul, Int.reduceDiv, ↓s_ref26_Bucket_b0, h, enterK_eq (q_rBounds b hb H), h1, h2]
  | d + 1, b, hd => by
    have hb : b ≤ 41 := by have := lenN_le hx; omega
    have h : (b : Int) < 42 := by omega
    have ih := l_rBucket x hx H k d (b + 1) (by omega)
    rw [Int.natCast_add] at ih
    have hin : ¬ (loN b ≤ x ∧ x ≤ hiN b) := fun h => by have := (in_bucket hx hb).1 h; omega
    rw [r_ref26_Bucket_0]
    by_cases h1 : loN b ≤ x
    · have h1' : ((loN b : Nat) : Int) ≤ (x : Int) := by omega
      have h2' : ¬ (x : Int) ≤ ((hiN b : Nat) : Int) := by omega
      simp (disch := first | with_reducible rfl | assumption | omega | rfl | (simp only [go_sem]; first | done | omega)) only [go_sem, ↓reduceIte, reduceCtorEq, Nat.reduceEqDiff, Nat.reduceAdd, Nat.reduceSub, Nat.reduceMul, Nat.reduceDiv, Nat.reduceMod, Nat.reduceLeDiff, Nat.reduceLT, Nat.reduceBEq, Int.reduceEq, Int.reduceBEq, Int.reduceBNe, Int.reduceLT, Int.reduceLE, Int.reduceAdd, Int.reduceSub, Int.reduceNeg, Int.reduceToNat, Int.reducePow, Nat.reducePow, Int.reduceMul, Int.reduceDiv, ↓s_ref26_Bucket_b0, h, enterK_eq (q_rBounds b hb H), h1', h2']
      exact ih
    · have h1' : ¬ ((loN b : Nat) : Int) ≤ (x : Int) := by omega
      simp (disch := first | with_reducible rfl | assumption | omega | rfl | (simp only [go_sem]; first | done | omega)) only [go_sem, ↓reduceIte, reduceCtorEq, Nat.reduceEqDiff, Nat.reduceAdd, Nat.reduceSub, Nat.reduceMul, Nat.reduceDiv, Nat.reduceMod, Nat.reduceLeDiff, Nat.reduceLT, Nat.reduceBEq, Int.reduceEq, Int.reduceBEq, Int.reduceBNe, Int.reduceLT, Int.reduceLE, Int.reduceAdd, Int.reduceSub, Int.reduceNeg, Int.reduceToNat, Int.reducePow, Nat.reducePow, Int.reduceMul, Int.reduceDiv, ↓s_ref26_Bucket_b0, h, enterK_eq (q_rBounds b hb H), h1']
      exact ih
theorem q_rBucket (x : Nat) (hx : x ≤ 1099511627776) (H : AHeap) : CC F.ref26_Bucket [.int .i64 (x : Int)] H = some (.int .i64 (lenN x), H) := by
  apply pure_of _ (d_ref26_Bucket _ H) rfl
  rotate_left 2
  · have := l_rBucket x hx H (endK Try.prog [.tmp 2]) (lenN x) 0 (by omega)
    simp (disch := first | with_reducible rfl | assumption | omega | rfl | (simp only [go_sem]; first | done | omega)) only [go_sem, ↓reduceIte, reduceCtorEq, Nat.reduceEqDiff, Nat.reduceAdd, Nat.reduceSub, Nat.reduceMul, Nat.reduceDiv, Nat.reduceMod, Nat.reduceLeDiff, Nat.reduceLT, Nat.reduceBEq, Int.reduceEq, Int.reduceBEq, Int.reduceBNe, Int.reduceLT, Int.reduceLE, Int.reduceAdd, Int.reduceSub, Int.reduceNeg, Int.reduceToNat, Int.reducePow, Nat.reducePow, Int.reduceMul, Int.reduceDiv, ↓s_ref26_Bucket]
    exact this
  · (repeat (first | exact Fr.refl _ | refine Fr.push ?_ _ | refine Fr.set ?_ _ _ (by intro h; first | omega | (simp only [go_sem] at h; omega))))

end Go.Proofs.Ytplblfcofplcmaa

/-
  The seat's functions as terms over the engine's combinators (a program of ours printed it).
  Conditions: none. By an AI agent.
-/
set_option linter.unusedVariables false
namespace Go.Proofs.Ytplblfcofplcmaa
open Go Eng

/-! ticketline.ticketlinelaw26.StatsBuckets -/

noncomputable def s_law_StatsBuckets (mg : GT) (mc : CT) (ms : ST) (P : Program) (C : CallF) (a0 : Value) (a1 : Value) (H : AHeap) (K0 : K) : Res :=
bareK (xbin P .lss T.int (.tmp 7) (.const (.int .i64 0)) a0 (.int .i64 0)) H fun t8 h1 =>
mg t8 false (fun o1 => o1 a0 h1) h1 fun t10 h2 =>
mg t8 false (fun o2 => bareK (xbin P .gtr T.int (.tmp 10) (.const (.int .i64 1099511627776)) t10 (.int .i64 1099511627776)) h2 o2) h2 fun t11 h3 =>
pickK t8 (.bool true) t11 fun t12 =>
mc t12 (fun k3 => enterK C F.law_bucket [a0, (.int .i64 0), (.int .i64 2)] h3 fun t14 h4 =>
bareK (xun P .not t14) h4 fun t15 h5 =>
mc t15 (fun k4 => k4 .ret [(4, (.bool false))] h5) (fun k4 =>
k4 .normal [(1, a1)] h5) (afterK [1] k3)) (fun k3 =>
enterK C F.ref26_Bucket [a0] h3 fun t18 h6 =>
enterK C F.law_bucket [a0, t18, (.int .i64 0)] h6 fun t19 h7 =>
bareK (xun P .not t19) h7 fun t20 h8 =>
mc t20 (fun k5 => k5 .ret [(4, (.bool false))] h8) (fun k5 =>
k5 .normal [(1, a1)] h8) (afterK [1] k3)) (seqK (fun tT h9 =>
bareK (xbin P .lss T.int (.tmp 21) (.const (.int .i64 0)) (get tT 1) (.int .i64 0)) h9 fun t22 h10 =>
mg t22 false (fun o6 => o6 (get tT 1) h10) h10 fun t24 h11 =>
mg t22 false (fun o7 => bareK (xbin P .gtr T.int (.tmp 24) (.const (.int .i64 41)) t24 (.int .i64 41)) h11 o7) h11 fun t25 h12 =>
pickK t22 (.bool true) t25 fun t26 =>
mc t26 (fun k8 => enterK C F.law_bounds [(get tT 1), (.int .i64 0), (.int .i64 0), (.int .i64 2)] h12 fun t28 h13 =>
mg t28 true (fun o9 => enterK C F.law_known [] h13 o9) h13 fun t30 h14 =>
pickK t28 t30 (.bool false) fun t31 =>
k8 .ret [(4, t31)] h14) (fun k8 =>
k8 .normal [(1, (get tT 1))] h12) (seqK (fun tT_1 h15 =>
enterK C F.ref26_Bounds [(get tT_1 1)] h15 fun t34 h16 =>
bareK (xextract t34 0) h16 fun t35 h17 =>
bareK (xextract t34 1) h17 fun t36 h18 =>
enterK C F.law_bounds [(get tT_1 1), t35, t36, (.int .i64 0)] h18 fun t40 h19 =>
mg t40 true (fun o10 => enterK C F.law_known [] h19 o10) h19 fun t42 h20 =>
pickK t40 t42 (.bool false) fun t43 =>
K0 .ret [(4, t43)] h20) K0)) K0)

theorem s_law_StatsBuckets_eq (M : CombL) (C : CallF) (LP : LoopH) (a0 : Value) (a1 : Value) (H : AHeap) : dBodyL M Try.prog hints C LP F.law_StatsBuckets [a0, a1] H = s_law_StatsBuckets M.b.g M.c M.s Try.prog C a0 a1 H (endK Try.prog [.tmp 4]) := by kernel_rfl

end Go.Proofs.Ytplblfcofplcmaa

/-
  The equations of the seat's functions over calls in the limit (a program of ours printed it).
  Conditions: none. By an AI agent.
-/
set_option linter.unusedVariables false
namespace Go.Proofs.Ytplblfcofplcmaa
open Go Eng



theorem d_law_StatsBuckets (a0 : Value) (a1 : Value) (H : AHeap) {r : Value × AHeap} (h : s_law_StatsBuckets guardK condL shareL Try.prog CC a0 a1 H (endK Try.prog [.tmp 4]) = some r) : CC F.law_StatsBuckets [a0, a1] H = some (tidy H r) := D_body (by kernel_rfl) ((s_law_StatsBuckets_eq stdL CC limLP a0 a1 H).trans (Eq.trans (show s_law_StatsBuckets stdL.b.g stdL.c stdL.s Try.prog CC a0 a1 H (endK Try.prog [.tmp 4]) = s_law_StatsBuckets guardK condL shareL Try.prog CC a0 a1 H (endK Try.prog [.tmp 4]) by kernel_rfl) h))

end Go.Proofs.Ytplblfcofplcmaa

/-
  Chapter 26: the law StatsBuckets runs to true.
  Conditions: none. By an AI agent.
-/
set_option maxRecDepth 10000
set_option linter.unusedSimpArgs false
set_option linter.unusedVariables false
namespace Go.Proofs.Ytplblfcofplcmaa
open Go Eng

theorem k_known (H : AHeap) : CC F.law_known [] H = some (.bool true, H) := D_prim (show prims1 F.law_known = some trueP by kernel_rfl) rfl
@[go_sem, go_sem ↓] theorem e_known {H : AHeap} {k : Value → AHeap → Res} : enterK CC F.law_known [] H k = k (.bool true) H := enterK_eq (k_known H)

theorem q_lbucket {n w e : Int} {H : AHeap} (h : CC F.stats_Bucket [.int .i64 n] H = some (.tuple ⟨[.int .i64 w, .int .i64 e]⟩, H)) : CC F.law_bucket [.int .i64 n, .int .i64 w, .int .i64 e] H = some (.bool true, H) := by
  apply pure_of _ (d_law_bucket _ _ _ H) rfl
  rotate_left 2
  · simp (disch := first | with_reducible rfl | assumption | omega | rfl | (simp only [go_sem]; first | done | omega)) only [go_sem, ↓reduceIte, reduceCtorEq, Nat.reduceEqDiff, Nat.reduceAdd, Nat.reduceSub, Nat.reduceMul, Nat.reduceDiv, Nat.reduceMod, Nat.reduceLeDiff, Nat.reduceLT, Nat.reduceBEq, Int.reduceEq, Int.reduceBEq, Int.reduceBNe, Int.reduceLT, Int.reduceLE, Int.reduceAdd, Int.reduceSub, Int.reduceNeg, Int.reduceToNat, Int.reducePow, Nat.reducePow, Int.reduceMul, Int.reduceDiv, ↓s_law_bucket, ↓enterK_eq h, enterK_eq h]
    rfl
  · (repeat (first | exact Fr.refl _ | refine Fr.push ?_ _ | refine Fr.set ?_ _ _ (by intro h; first | omega | (simp only [go_sem] at h; omega))))
theorem q_lbounds {n w w2 e : Int} {H : AHeap} (h : CC F.stats_Bounds [.int .i64 n] H = some (.tuple ⟨[.int .i64 w, .int .i64 w2, .int .i64 e]⟩, H)) : CC F.law_bounds [.int .i64 n, .int .i64 w, .int .i64 w2, .int .i64 e] H = some (.bool true, H) := by
  apply pure_of _ (d_law_bounds _ _ _ _ H) rfl
  rotate_left 2
  · simp (disch := first | with_reducible rfl | assumption | omega | rfl | (simp only [go_sem]; first | done | omega)) only [go_sem, ↓reduceIte, reduceCtorEq, Nat.reduceEqDiff, Nat.reduceAdd, Nat.reduceSub, Nat.reduceMul, Nat.reduceDiv, Nat.reduceMod, Nat.reduceLeDiff, Nat.reduceLT, Nat.reduceBEq, Int.reduceEq, Int.reduceBEq, Int.reduceBNe, Int.reduceLT, Int.reduceLE, Int.reduceAdd, Int.reduceSub, Int.reduceNeg, Int.reduceToNat, Int.reducePow, Nat.reducePow, Int.reduceMul, Int.reduceDiv, ↓s_law_bounds, ↓enterK_eq h, enterK_eq h]
    rfl
  · (repeat (first | exact Fr.refl _ | refine Fr.push ?_ _ | refine Fr.set ?_ _ _ (by intro h; first | omega | (simp only [go_sem] at h; omega))))

theorem q_StatsBuckets (n b : Int) (H : AHeap) : CC F.law_StatsBuckets [.int .i64 n, .int .i64 b] H = some (.bool true, H) := by
  have hB : ∀ (H : AHeap), b < 0 ∨ 41 < b → CC F.law_bounds [.int .i64 b, .int .i64 0, .int .i64 0, .int .i64 2] H = some (.bool true, H) := fun H h => q_lbounds (q_Bounds_bad b h H)
  have hG : ∀ (c : Nat) (H : AHeap), c ≤ 41 → b = (c : Int) → CC F.law_bounds [.int .i64 (c : Int), .int .i64 (loN c), .int .i64 (hiN c), .int .i64 0] H = some (.bool true, H) := fun c H h _ => q_lbounds (q_Bounds c h H)
  by_cases h1 : n < 0
  · have e1 := q_lbucket (q_Bucket_bad n (.inl h1) H)
    by_cases h3 : b < 0
    · apply pure_of _ (d_law_StatsBuckets _ _ H) rfl
      rotate_left 2
      · simp (disch := first | with_reducible rfl | assumption | omega | rfl | (simp only [go_sem]; first | done | omega)) only [go_sem, ↓reduceIte, reduceCtorEq, Nat.reduceEqDiff, Nat.reduceAdd, Nat.reduceSub, Nat.reduceMul, Nat.reduceDiv, Nat.reduceMod, Nat.reduceLeDiff, Nat.reduceLT, Nat.reduceBEq, Int.reduceEq, Int.reduceBEq, Int.reduceBNe, Int.reduceLT, Int.reduceLE, Int.reduceAdd, Int.reduceSub, Int.reduceNeg, Int.reduceToNat, Int.reducePow, Nat.reducePow, Int.reduceMul, Int.reduceDiv, ↓s_law_StatsBuckets, h1, h3, ↓enterK_eq e1, enterK_eq e1, enterK_eq (hB H (.inl h3))]
        rfl
      · (repeat (first | exact Fr.refl _ | refine Fr.push ?_ _ | refine Fr.set ?_ _ _ (by intro h; first | omega | (simp only [go_sem] at h; omega))))
    · by_cases h4 : 41 < b
      · apply pure_of _ (d_law_StatsBuckets _ _ H) rfl
        rotate_left 2
        · simp (disch := first | with_reducible rfl | assumption | omega | rfl | (simp only [go_sem]; first | done | omega)) only [go_sem, ↓reduceIte, reduceCtorEq, Nat.reduceEqDiff, Nat.reduceAdd, Nat.reduceSub, Nat.reduceMul, Nat.reduceDiv, Nat.reduceMod, Nat.reduceLeDiff, Nat.reduceLT, Nat.reduceBEq, Int.reduceEq, Int.reduceBEq, Int.reduceBNe, Int.reduceLT, Int.reduceLE, Int.reduceAdd, Int.reduceSub, Int.reduceNeg, Int.reduceToNat, Int.reducePow, Nat.reducePow, Int.reduceMul, Int.reduceDiv, ↓s_law_StatsBuckets, h1, h3, h4, ↓enterK_eq e1, enterK_eq e1, enterK_eq (hB H (.inr h4))]
          rfl
        · (repeat (first | exact Fr.refl _ | refine Fr.push ?_ _ | refine Fr.set ?_ _ _ (by intro h; first | omega | (simp only [go_sem] at h; omega))))
      · obtain ⟨c, rfl⟩ : ∃ c : Nat, b = (c : Int) := ⟨b.toNat, by omega⟩
        apply pure_of _ (d_law_StatsBuckets _ _ H) rfl
        rotate_left 2
        · simp (disch := first | with_reducible rfl | assumption | omega | rfl | (simp only [go_sem]; first | done | omega)) only [go_sem, ↓reduceIte, reduceCtorEq, Nat.reduceEqDiff, Nat.reduceAdd, Nat.reduceSub, Nat.reduceMul, Nat.reduceDiv, Nat.reduceMod, Nat.reduceLeDiff, Nat.reduceLT, Nat.reduceBEq, Int.reduceEq, Int.reduceBEq, Int.reduceBNe, Int.reduceLT, Int.reduceLE, Int.reduceAdd, Int.reduceSub, Int.reduceNeg, Int.reduceToNat, Int.reducePow, Nat.reducePow, Int.reduceMul, Int.reduceDiv, ↓s_law_StatsBuckets, h1, h3, h4, ↓enterK_eq e1, enterK_eq e1, enterK_eq (q_rBounds c (by omega) H), enterK_eq (hG c H (by omega) rfl)]
          rfl
        · (repeat (first | exact Fr.refl _ | refine Fr.push ?_ _ | refine Fr.set ?_ _ _ (by intro h; first | omega | (simp only [go_sem] at h; omega))))
  · by_cases h2 : 1099511627776 < n
    · have e1 := q_lbucket (q_Bucket_bad n (.inr h2) H)
      by_cases h3 : b < 0
      · apply pure_of _ (d_law_StatsBuckets _ _ H) rfl
        rotate_left 2
        · simp (disch := first | with_reducible rfl | assumption | omega | rfl | (simp only [go_sem]; first | done | omega)) only [go_sem, ↓reduceIte, reduceCtorEq, Nat.reduceEqDiff, Nat.reduceAdd, Nat.reduceSub, Nat.reduceMul, Nat.reduceDiv, Nat.reduceMod, Nat.reduceLeDiff, Nat.reduceLT, Nat.reduceBEq, Int.reduceEq, Int.reduceBEq, Int.reduceBNe, Int.reduceLT, Int.reduceLE, Int.reduceAdd, Int.reduceSub, Int.reduceNeg, Int.reduceToNat, Int.reducePow, Nat.reducePow, Int.reduceMul, Int.reduceDiv, ↓s_law_StatsBuckets, h1, h2, h3, ↓enterK_eq e1, enterK_eq e1, enterK_eq (hB H (.inl h3))]
          rfl
        · (repeat (first | exact Fr.refl _ | refine Fr.push ?_ _ | refine Fr.set ?_ _ _ (by intro h; first | omega | (simp only [go_sem] at h; omega))))
      · by_cases h4 : 41 < b
        · apply pure_of _ (d_law_StatsBuckets _ _ H) rfl
          rotate_left 2
          · simp (disch := first | with_reducible rfl | assumption | omega | rfl | (simp only [go_sem]; first | done | omega)) only [go_sem, ↓reduceIte, reduceCtorEq, Nat.reduceEqDiff, Nat.reduceAdd, Nat.reduceSub, Nat.reduceMul, Nat.reduceDiv, Nat.reduceMod, Nat.reduceLeDiff, Nat.reduceLT, Nat.reduceBEq, Int.reduceEq, Int.reduceBEq, Int.reduceBNe, Int.reduceLT, Int.reduceLE, Int.reduceAdd, Int.reduceSub, Int.reduceNeg, Int.reduceToNat, Int.reducePow, Nat.reducePow, Int.reduceMul, Int.reduceDiv, ↓s_law_StatsBuckets, h1, h2, h3, h4, ↓enterK_eq e1, enterK_eq e1, enterK_eq (hB H (.inr h4))]
            rfl
          · (repeat (first | exact Fr.refl _ | refine Fr.push ?_ _ | refine Fr.set ?_ _ _ (by intro h; first | omega | (simp only [go_sem] at h; omega))))
        · obtain ⟨c, rfl⟩ : ∃ c : Nat, b = (c : Int) := ⟨b.toNat, by omega⟩
          apply pure_of _ (d_law_StatsBuckets _ _ H) rfl
          rotate_left 2
          · simp (disch := first | with_reducible rfl | assumption | omega | rfl | (simp only [go_sem]; first | done | omega)) only [go_sem, ↓reduceIte, reduceCtorEq, Nat.reduceEqDiff, Nat.reduceAdd, Nat.reduceSub, Nat.reduceMul, Nat.reduceDiv, Nat.reduceMod, Nat.reduceLeDiff, Nat.reduceLT, Nat.reduceBEq, Int.reduceEq, Int.reduceBEq, Int.reduceBNe, Int.reduceLT, Int.reduceLE, Int.reduceAdd, Int.reduceSub, Int.reduceNeg, Int.reduceToNat, Int.reducePow, Nat.reducePow, Int.reduceMul, Int.reduceDiv, ↓s_law_StatsBuckets, h1, h2, h3, h4, ↓enterK_eq e1, enterK_eq e1, enterK_eq (q_rBounds c (by omega) H), enterK_eq (hG c H (by omega) rfl)]
            rfl
          · (repeat (first | exact Fr.refl _ | refine Fr.push ?_ _ | refine Fr.set ?_ _ _ (by intro h; first | omega | (simp only [go_sem] at h; omega))))
    · obtain ⟨x, rfl⟩ : ∃ x : Nat, n = (x : Int) := ⟨n.toNat, by omega⟩
      have e0 := q_rBucket x (by omega) H
      have e1 := q_lbucket (q_Bucket x (by omega) H)
      by_cases h3 : b < 0
      · apply pure_of _ (d_law_StatsBuckets _ _ H) rfl
        rotate_left 2
        · simp (disch := first | with_reducible rfl | assumption | omega | rfl | (simp only [go_sem]; first | done | omega)) only [go_sem, ↓reduceIte, reduceCtorEq, Nat.reduceEqDiff, Nat.reduceAdd, Nat.reduceSub, Nat.reduceMul, Nat.reduceDiv, Nat.reduceMod, Nat.reduceLeDiff, Nat.reduceLT, Nat.reduceBEq, Int.reduceEq, Int.reduceBEq, Int.reduceBNe, Int.reduceLT, Int.reduceLE, Int.reduceAdd, Int.reduceSub, Int.reduceNeg, Int.reduceToNat, Int.reducePow, Nat.reducePow, Int.reduceMul, Int.reduceDiv, ↓s_law_StatsBuckets, h1, h2, h3, ↓enterK_eq e0, enterK_eq e0, ↓enterK_eq e1, enterK_eq e1, enterK_eq (hB H (.inl h3))]
          rfl
        · (repeat (first | exact Fr.refl _ | refine Fr.push ?_ _ | refine Fr.set ?_ _ _ (by intro h; first | omega | (simp only [go_sem] at h; omega))))
      · by_cases h4 : 41 < b
        · apply pure_of _ (d_law_StatsBuckets _ _ H) rfl
          rotate_left 2
          · simp (disch := first | with_reducible rfl | assumption | omega | rfl | (simp only [go_sem]; first | done | omega)) only [go_sem, ↓reduceIte, reduceCtorEq, Nat.reduceEqDiff, Nat.reduceAdd, Nat.reduceSub, Nat.reduceMul, Nat.reduceDiv, Nat.reduceMod, Nat.reduceLeDiff, Nat.reduceLT, Nat.reduceBEq, Int.reduceEq, Int.reduceBEq, Int.reduceBNe, Int.reduceLT, Int.reduceLE, Int.reduceAdd, Int.reduceSub, Int.reduceNeg, Int.reduceToNat, Int.reducePow, Nat.reducePow, Int.reduceMul, Int.reduceDiv, ↓s_law_StatsBuckets, h1, h2, h3, h4, ↓enterK_eq e0, enterK_eq e0, ↓enterK_eq e1, enterK_eq e1, enterK_eq (hB H (.inr h4))]
            rfl
          · (repeat (first | exact Fr.refl _ | refine Fr.push ?_ _ | refine Fr.set ?_ _ _ (by intro h; first | omega | (simp only [go_sem] at h; omega))))
        · obtain ⟨c, rfl⟩ : ∃ c : Nat, b = (c : Int) := ⟨b.toNat, by omega⟩
          apply pure_of _ (d_law_StatsBuckets _ _ H) rfl
          rotate_left 2
          · simp (disch := first | with_reducible rfl | assumption | omega | rfl | (simp only [go_sem]; first | done | omega)) only [go_sem, ↓reduceIte, reduceCtorEq, Nat.reduceEqDiff, Nat.reduceAdd, Nat.reduceSub, Nat.reduceMul, Nat.reduceDiv, Nat.reduceMod, Nat.reduceLeDiff, Nat.reduceLT, Nat.reduceBEq, Int.reduceEq, Int.reduceBEq, Int.reduceBNe, Int.reduceLT, Int.reduceLE, Int.reduceAdd, Int.reduceSub, Int.reduceNeg, Int.reduceToNat, Int.reducePow, Nat.reducePow, Int.reduceMul, Int.reduceDiv, ↓s_law_StatsBuckets, h1, h2, h3, h4, ↓enterK_eq e0, enterK_eq e0, ↓enterK_eq e1, enterK_eq e1, enterK_eq (q_rBounds c (by omega) H), enterK_eq (hG c H (by omega) rfl)]
            rfl
          · (repeat (first | exact Fr.refl _ | refine Fr.push ?_ _ | refine Fr.set ?_ _ _ (by intro h; first | omega | (simp only [go_sem] at h; omega))))

theorem run_StatsBuckets (a b : Int) (_ : (Lit.int .i64 a).wf = true) (_ : (Lit.int .i64 b).wf = true) : ∃ k H', dCall Try.prog prims1 hints k F.law_StatsBuckets [.int .i64 a, .int .i64 b] H0 = some (.bool true, H') := by
  obtain ⟨k, h⟩ := D_run (q_StatsBuckets a b H0)
  exact ⟨k, _, h⟩

end Go.Proofs.Ytplblfcofplcmaa

/-
  The engine, part 35: arrays of numbers: equality, elements.
  Conditions: none. By an AI agent.
-/
namespace Go.Proofs.Ytplblfcofplcmaa.Eng
open Go
set_option linter.unusedVariables false
set_option linter.unusedSimpArgs false
variable {P : Program} {H : AHeap}

theorem pv_eqArr {d : Nat} {t e : TypeId} {n : Nat} {q : IntKind} {xs ys : Array Value} (f g : Nat → Int) (ht : P.underlying t = some (.array n e)) (he : P.underlying e = some (.int q)) (hs : sizeQ P e = some 1)
    (hx : ∀ i, i < n → xs[i]? = some (.int q (f i))) (hy : ∀ i, i < n → ys[i]? = some (.int q (g i))) :
    pv P (Op.equalIn (d + 2) t (.agg xs) (.agg ys)) = some ((List.range n).all fun i => decide (f i = g i)) := by
  have hs' : pv P (sizeOf e) = some 1 := by
    unfold sizeQ at hs
    obtain ⟨i, h1, h2⟩ := Option.map_eq_some_iff.1 hs
    unfold sizeOf typeInfo
    simp only [pv_bind', pv_program, Option.bind_some]
    rw [h1]
    simp [pv_pure, h2]
  rw [Op.equalIn]
  simp only [pv_bind', pv_und ht, pv_program, Option.bind_some, hs']
  simp only [Std.Legacy.Range.forIn_eq_forIn_range', Std.Legacy.Range.size]
  have hf : ∀ i, fitC P e (.int q (f i)) (.int q (g i)) = true := fun i => by unfold fitC; rw [he]; simp
  obtain ⟨body, hbody⟩ : ∃ body : Nat → Option Bool × Unit → Sem (ForInStep (Option Bool × Unit)), body = fun i __s => (do
      let a ← part e xs (i * 1)
      let b ← part e ys (i * 1)
      let c ← Op.equalIn (d + 1) e a b
      if (!c) = true then pure (ForInStep.done (some false, ())) else pure (ForInStep.yield (none, ()))) := ⟨_, rfl⟩
  have hb : ∀ i, i < n → pv P (body i (none, ())) = some (if f i = g i then ForInStep.yield (none, ()) else ForInStep.done (some false, ())) := fun i hi => by
    rw [hbody]
    simp only [pv_bind', Nat.mul_one, pv_part (hf i) (hx i hi), pv_part (v := .int q (g i)) (hf i) (hy i hi), Option.bind_some, pv_cell (hf i), ceq, pv_ite, pv_pure]
    by_cases h : f i = g i <;> simp [h]
  have hl : ∀ L : List Nat, (∀ i ∈ L, i < n) → pv P (forIn L (none, ()) body) = some (if (L.all fun i => decide (f i = g i)) = true then (none, ()) else (some false, ())) := by
    intro L
    induction L with
    | nil => intro _; simp [pv_pure]
    | cons i L ih =>
      intro h
      rw [List.forIn_cons, pv_bind', hb i (h i (by simp)), Option.bind_some]
      by_cases hfg : f i = g i
      · rw [if_pos hfg]
        simp only [List.all_cons, hfg, decide_true, Bool.true_and]
        exact ih fun j hj => h j (by simp [hj])
      · rw [if_neg hfg]
        simp only [List.all_cons, hfg, decide_false, Bool.false_and, pv_pure, Bool.false_eq_true, if_false]
  rw [← hbody]
  have e0 : List.range' 0 ((n - 0 + 1 - 1) / 1) = List.range n := by rw [List.range_eq_range']; congr 1; omega
  rw [e0, hl (List.range n) fun i hi => List.mem_range.1 hi, Option.bind_some]
  by_cases h : ((List.range n).all fun i => decide (f i = g i)) = true
  · rw [if_pos h, h]; rfl
  · rw [if_neg h, Bool.eq_false_iff.2 h]; rfl

theorem pv_equalArr {t e : TypeId} {n : Nat} {q : IntKind} {xs ys : Array Value} (f g : Nat → Int) (ht : P.underlying t = some (.array n e)) (he : P.underlying e = some (.int q)) (hs : sizeQ P e = some 1)
    (hx : ∀ i, i < n → xs[i]? = some (.int q (f i))) (hy : ∀ i, i < n → ys[i]? = some (.int q (g i))) :
    pv P (Op.equal t (.agg xs) (.agg ys)) = some ((List.range n).all fun i => decide (f i = g i)) := pv_eqArr (d := 9998) f g ht he hs hx hy

theorem arr_eq {t e : TypeId} {n : Nat} {q : IntKind} {xs ys : Array Value} {ox oy : Operand} (f g : Nat → Int) (ht : P.underlying t = some (.array n e)) (he : P.underlying e = some (.int q)) (hs : sizeQ P e = some 1)
    (hx : ∀ i, i < n → xs[i]? = some (.int q (f i))) (hy : ∀ i, i < n → ys[i]? = some (.int q (g i))) (hg : P.eqGuardType P.depth t = false) (g1 : gr 9 (.agg xs) = true) (g2 : gr 9 (.agg ys) = true) :
    xbin P .eql t ox oy (.agg xs) (.agg ys) = some (.bool ((List.range n).all fun i => decide (f i = g i))) := by
  have e' : xbin P .eql t ox oy (.agg xs) (.agg ys) = if gr 9 (.agg xs) && gr 9 (.agg ys) then pvg P (do eqGuard .eql t ox oy (.agg xs) (.agg ys); binOp .eql t (.agg xs) (.agg ys)) else (nilTest P t (.agg xs) (.agg ys)).map .bool := rfl
  rw [e', g1, g2]
  simp only [Bool.and_self, if_true]
  refine pvg_some ?_ rfl
  simp only [eqGuard, binOp, pv_bind', pv_program, Option.bind_some, hg, Bool.not_false, if_true, pv_pure, Bool.not_true, Bool.false_eq_true, if_false, pv_equalArr f g ht he hs hx hy]
theorem arr_ne {t e : TypeId} {n : Nat} {q : IntKind} {xs ys : Array Value} {ox oy : Operand} (f g : Nat → Int) (ht : P.underlying t = some (.array n e)) (he : P.underlying e = some (.int q)) (hs : sizeQ P e = some 1)
    (hx : ∀ i, i < n → xs[i]? = some (.int q (f i))) (hy : ∀ i, i < n → ys[i]? = some (.int q (g i))) (hg : P.eqGuardType P.depth t = false) (g1 : gr 9 (.agg xs) = true) (g2 : gr 9 (.agg ys) = true) :
    xbin P .neq t ox oy (.agg xs) (.agg ys) = some (.bool (!(List.range n).all fun i => decide (f i = g i))) := by
  have e' : xbin P .neq t ox oy (.agg xs) (.agg ys) = if gr 9 (.agg xs) && gr 9 (.agg ys) then pvg P (do eqGuard .neq t ox oy (.agg xs) (.agg ys); binOp .neq t (.agg xs) (.agg ys)) else (nilTest P t (.agg xs) (.agg ys)).map fun b => .bool !b := rfl
  rw [e', g1, g2]
  simp only [Bool.and_self, if_true]
  refine pvg_some ?_ rfl
  simp only [eqGuard, binOp, pv_bind', pv_program, Option.bind_some, hg, Bool.not_false, if_true, pv_pure, Bool.not_true, Bool.false_eq_true, if_false, pv_equalArr f g ht he hs hx hy]

@[go_sem] theorem ixA_b {n sz b o : Nat} {q : IntKind} {i : Int} (h : 0 ≤ i ∧ i < n) : ixA n sz (.pointer (some ⟨b, o, none⟩)) (.int q i) = some (.pointer (some ⟨b, o + i.toNat * sz, none⟩)) := by
  unfold ixA; simp only; rw [if_pos h]
theorem xindex_arr {t e : TypeId} {n : Nat} {q k : IntKind} {xs : Array Value} {v : Value} (ht : P.underlying t = some (.array n e)) (he : row? P e = some false) (hs : sizeQ P e = some 1) {i : Nat} (hi : i < n) (hx : xs[i]? = some v) :
    xindex P t (.agg xs) (.int k (i : Int)) = some v := by
  unfold xindex
  rw [ht]
  simp only [hs, Option.bind_some]
  rw [if_pos ⟨by omega, by omega⟩]
  unfold xpart prt1
  rw [he]
  simpa using hx

end Go.Proofs.Ytplblfcofplcmaa.Eng

/-
  Chapter 26: histograms.
  Conditions: none. By an AI agent.
-/
set_option maxRecDepth 10000
set_option linter.unusedSimpArgs false
set_option linter.unusedVariables false
namespace Go.Proofs.Ytplblfcofplcmaa
open Go Eng

structure Hi where
  bk : Nat → Int
  c : Int
  s : Int
  l : Int
  h : Int
def bkv (x : Hi) : List Value := (List.range 42).map fun i => .int .i64 (x.bk i)
def hv (x : Hi) : List Value := bkv x ++ [.int .i64 x.c, .int .i64 x.s, .int .i64 x.l, .int .i64 x.h]
@[reducible] def HB (x : Hi) : Blk := .cells (hv x) T.stats_Histogram true

theorem bkv_len (x : Hi) : (bkv x).length = 42 := by simp [bkv]
@[go_sem] theorem hv_len (x : Hi) : (hv x).length = 46 := by simp [hv, bkv_len]
@[go_sem] theorem hv_42 (x : Hi) : (hv x)[42]? = some (.int .i64 x.c) := rfl
@[go_sem] theorem hv_43 (x : Hi) : (hv x)[43]? = some (.int .i64 x.s) := rfl
@[go_sem] theorem hv_44 (x : Hi) : (hv x)[44]? = some (.int .i64 x.l) := rfl
@[go_sem] theorem hv_45 (x : Hi) : (hv x)[45]? = some (.int .i64 x.h) := rfl
theorem bkv_i (x : Hi) {i : Nat} (h : i < 42) : (bkv x)[i]? = some (.int .i64 (x.bk i)) := by simp [bkv, h]
theorem hv_i (x : Hi) {i : Nat} (h : i < 42) : (hv x)[i]? = some (.int .i64 (x.bk i)) := by
  unfold hv
  rw [List.getElem?_append_left (by rw [bkv_len]; exact h), bkv_i x h]
@[go_sem] theorem hv_set42 (x : Hi) (n : Int) : (hv x).set 42 (.int .i64 n) = hv { x with c := n } := rfl
@[go_sem] theorem hv_set43 (x : Hi) (n : Int) : (hv x).set 43 (.int .i64 n) = hv { x with s := n } := rfl
@[go_sem] theorem hv_set44 (x : Hi) (n : Int) : (hv x).set 44 (.int .i64 n) = hv { x with l := n } := rfl
@[go_sem] theorem hv_set45 (x : Hi) (n : Int) : (hv x).set 45 (.int .i64 n) = hv { x with h := n } := rfl
def upd (f : Nat → Int) (i : Nat) (n : Int) : Nat → Int := fun j => if j = i then n else f j
theorem hv_seti (x : Hi) {i : Nat} (h : i < 42) (n : Int) : (hv x).set i (.int .i64 n) = hv { x with bk := upd x.bk i n } := by
  unfold hv
  rw [List.set_append_left _ _ (by rw [bkv_len]; exact h)]
  congr 1
  apply List.ext_getElem?
  intro j
  by_cases hj : j < 42
  · rw [bkv_i _ hj, List.getElem?_set, bkv_i x hj, bkv_len]
    unfold upd
    by_cases e : i = j
    · subst e; simp [h]
    · have e' : ¬ j = i := fun h => e h.symm
      simp [e, e']
  · rw [List.getElem?_eq_none (by rw [List.length_set, bkv_len]; omega), List.getElem?_eq_none (by rw [bkv_len]; omega)]
@[go_sem] theorem hv_take42 (x : Hi) : (hv x).take 42 = bkv x := rfl
@[go_sem] theorem hv_take46 (x : Hi) : (hv x).take 46 = hv x := rfl

def zHi : Hi := ⟨fun _ => 0, 0, 0, 0, 0⟩
theorem zeros_hv : (.agg #[(.int .i64 0), (.int .i64 0), (.int .i64 0), (.int .i64 0), (.int .i64 0), (.int .i64 0), (.int .i64 0), (.int .i64 0), (.int .i64 0), (.int .i64 0), (.int .i64 0), (.int .i64 0), (.int .i64 0), (.int .i64 0), (.int .i64 0), (.int .i64 0), (.int .i64 0), (.int .i64 0), (.int .i64 0), (.int .i64 0), (.int .i64 0), (.int .i64 0), (.int .i64 0), (.int .i64 0), (.int .i64 0), (.int .i64 0), (.int .i64 0), (.int .i64 0), (.int .i64 0), (.int .i64 0), (.int .i64 0), (.int .i64 0), (.int .i64 0), (.int .i64 0), (.int .i64 0), (.int .i64 0), (.int .i64 0), (.int .i64 0), (.int .i64 0), (.int .i64 0), (.int .i64 0), (.int .i64 0), (.int .i64 0), (.int .i64 0), (.int .i64 0), (.int .i64 0)] : Value) = .agg ⟨hv zHi⟩ := rfl
theorem zeros_bk : (.agg #[(.int .i64 0), (.int .i64 0), (.int .i64 0), (.int .i64 0), (.int .i64 0), (.int .i64 0), (.int .i64 0), (.int .i64 0), (.int .i64 0), (.int .i64 0), (.int .i64 0), (.int .i64 0), (.int .i64 0), (.int .i64 0), (.int .i64 0), (.int .i64 0), (.int .i64 0), (.int .i64 0), (.int .i64 0), (.int .i64 0), (.int .i64 0), (.int .i64 0), (.int .i64 0), (.int .i64 0), (.int .i64 0), (.int .i64 0), (.int .i64 0), (.int .i64 0), (.int .i64 0), (.int .i64 0), (.int .i64 0), (.int .i64 0), (.int .i64 0), (.int .i64 0), (.int .i64 0), (.int .i64 0), (.int .i64 0), (.int .i64 0), (.int .i64 0), (.int .i64 0), (.int .i64 0), (.int .i64 0)] : Value) = .agg ⟨bkv zHi⟩ := rfl
theorem bld_bk : bldA #[(.int .i64 0), (.int .i64 0), (.int .i64 0), (.int .i64 0), (.int .i64 0), (.int .i64 0), (.int .i64 0), (.int .i64 0), (.int .i64 0), (.int .i64 0), (.int .i64 0), (.int .i64 0), (.int .i64 0), (.int .i64 0), (.int .i64 0), (.int .i64 0), (.int .i64 0), (.int .i64 0), (.int .i64 0), (.int .i64 0), (.int .i64 0), (.int .i64 0), (.int .i64 0), (.int .i64 0), (.int .i64 0), (.int .i64 0), (.int .i64 0), (.int .i64 0), (.int .i64 0), (.int .i64 0), (.int .i64 0), (.int .i64 0), (.int .i64 0), (.int .i64 0), (.int .i64 0), (.int .i64 0), (.int .i64 0), (.int .i64 0), (.int .i64 0), (.int .i64 0), (.int .i64 0), (.int .i64 0)] 1 [] = some (.agg ⟨bkv zHi⟩) := rfl
theorem bld_hv (c s l h : Int) : bldS #[(.int .i64 0), (.int .i64 0), (.int .i64 0), (.int .i64 0), (.int .i64 0), (.int .i64 0), (.int .i64 0), (.int .i64 0), (.int .i64 0), (.int .i64 0), (.int .i64 0), (.int .i64 0), (.int .i64 0), (.int .i64 0), (.int .i64 0), (.int .i64 0), (.int .i64 0), (.int .i64 0), (.int .i64 0), (.int .i64 0), (.int .i64 0), (.int .i64 0), (.int .i64 0), (.int .i64 0), (.int .i64 0), (.int .i64 0), (.int .i64 0), (.int .i64 0), (.int .i64 0), (.int .i64 0), (.int .i64 0), (.int .i64 0), (.int .i64 0), (.int .i64 0), (.int .i64 0), (.int .i64 0), (.int .i64 0), (.int .i64 0), (.int .i64 0), (.int .i64 0), (.int .i64 0), (.int .i64 0), (.int .i64 0), (.int .i64 0), (.int .i64 0), (.int .i64 0)] [(0, 42), (42, 1), (43, 1), (44, 1), (45, 1)] [(1, .int .i64 c), (2, .int .i64 s), (3, .int .i64 l), (4, .int .i64 h)] = some (.agg ⟨hv ⟨fun _ => 0, c, s, l, h⟩⟩) := rfl
theorem newv_hv {H : AHeap} (x : Hi) : newv T.stats_Histogram (.agg ⟨hv x⟩) H = some (.pointer (some ⟨H.n, 0, none⟩), H.push (HB x)) := rfl
theorem one_bkv (x : Hi) : (bkv x).all Eng.one = true := by simp [bkv, one_i]
theorem one_hv (x : Hi) : (hv x).all Eng.one = true := by rw [hv, List.all_append, one_bkv]; rfl
theorem spl_all : ∀ (ys a xs : List Value), xs.length = ys.length → spl (a ++ xs) a.length ys = a ++ ys
  | [], a, xs, h => by cases xs with | nil => rfl | cons _ _ => cases h
  | y :: ys, a, [], h => by cases h
  | y :: ys, a, x :: xs, h => by
    have h' : xs.length = ys.length := by simpa using h
    have ih := spl_all ys (a ++ [y]) xs h'
    rw [spl, List.set_append_right _ _ (Nat.le_refl _), Nat.sub_self, List.set_cons_zero]
    rw [List.length_append, List.append_assoc, List.append_assoc] at ih
    exact ih
theorem wr_hv (x y : Hi) : wrL (HB x) 0 (hv y) = some (HB y) := by
  rw [wrL_c (by rw [hv_len, hv_len]; decide) (one_hv y)]
  have := spl_all (hv y) [] (hv x) (by rw [hv_len, hv_len])
  rw [List.nil_append, List.nil_append, List.length_nil] at this
  rw [this]
theorem st_hv (x y : Hi) {H : AHeap} {b : Nat} (hf : H.f b = HB x) : stN 46 H (.pointer (some ⟨b, 0, none⟩)) (.agg ⟨hv y⟩) = some (H.set b (HB y)) := by
  rw [stN_b (hv_len y), hf, wr_hv, setB_s]

theorem gr_bk (x : Hi) : gr 9 (.agg ⟨bkv x⟩) = true := rfl
theorem gr_hv (x : Hi) : gr 9 (.agg ⟨hv x⟩) = true := rfl
def sameB (x y : Hi) : Bool := (List.range 42).all fun i => decide (x.bk i = y.bk i)
theorem bk_eq {ox oy : Operand} (x y : Hi) : xbin Try.prog .eql T.n42_int ox oy (.agg ⟨bkv x⟩) (.agg ⟨bkv y⟩) = some (.bool (sameB x y)) :=
  arr_eq x.bk y.bk Try.underlying45 Try.underlying3 (by kernel_rfl) (fun i h => by simpa using bkv_i x h) (fun i h => by simpa using bkv_i y h) (by kernel_rfl) (gr_bk x) (gr_bk y)
theorem bk_ne {ox oy : Operand} (x y : Hi) : xbin Try.prog .neq T.n42_int ox oy (.agg ⟨bkv x⟩) (.agg ⟨bkv y⟩) = some (.bool (!sameB x y)) :=
  arr_ne x.bk y.bk Try.underlying45 Try.underlying3 (by kernel_rfl) (fun i h => by simpa using bkv_i x h) (fun i h => by simpa using bkv_i y h) (by kernel_rfl) (gr_bk x) (gr_bk y)
theorem bk_ix (x : Hi) {i : Nat} (h : i < 42) : xindex Try.prog T.n42_int (.agg ⟨bkv x⟩) (.int .i64 (i : Int)) = some (.int .i64 (x.bk i)) :=
  xindex_arr (q := .i64) Try.underlying45 (by kernel_rfl) (by kernel_rfl) h (by simpa using bkv_i x h)

def empB (x : Hi) : Bool := sameB x zHi
theorem q_empty (x : Hi) (b : Nat) (H : AHeap) (hf : H.f b = HB x) : CC F.stats_Histogram_empty [.pointer (some ⟨b, 0, none⟩)] H = some (.bool (empB x), H) := by
  apply pure_of _ (d_stats_Histogram_empty _ H) rfl
  rotate_left 2
  · simp (disch := first | with_reducible rfl | assumption | omega | rfl | (simp only [go_sem]; first | done | omega)) only [go_sem, ↓reduceIte, reduceCtorEq, Nat.reduceEqDiff, Nat.reduceAdd, Nat.reduceSub, Nat.reduceMul, Nat.reduceDiv, Nat.reduceMod, Nat.reduceLeDiff, Nat.reduceLT, Nat.reduceBEq, Int.reduceEq, Int.reduceBEq, Int.reduceBNe, Int.reduceLT, Int.reduceLE, Int.reduceAdd, Int.reduceSub, Int.reduceNeg, Int.reduceToNat, Int.reducePow, Nat.reducePow, Int.reduceMul, Int.reduceDiv, ↓s_stats_Histogram_empty, hf, ↓bld_bk, bk_eq]
    rfl
  · (repeat (first | exact Fr.refl _ | refine Fr.push ?_ _ | refine Fr.set ?_ _ _ (by intro h; first | omega | (simp only [go_sem] at h; omega))))

end Go.Proofs.Ytplblfcofplcmaa

/-
  Chapter 26: joining histograms.
  Conditions: none. By an AI agent.
-/
set_option maxRecDepth 10000
set_option linter.unusedSimpArgs false
set_option linter.unusedVariables false
namespace Go.Proofs.Ytplblfcofplcmaa
open Go Eng

theorem l_join (b : Nat) (y : Hi) (hy : ∀ i, i < 42 → 0 ≤ y.bk i ∧ y.bk i ≤ 1099511627776) : ∀ (d i : Nat), i + d = 42 → ∀ (x : Hi) (H : AHeap), H.f b = HB x → b < H.n → (∀ j, i ≤ j → j < 42 → 0 ≤ x.bk j ∧ x.bk j ≤ 1099511627776) →
    ∃ H', (∀ K, l_stats_Histogram_join_0 (.pointer (some ⟨b, 0, none⟩)) (.agg ⟨bkv y⟩) (.int .i64 (i : Int)) H (blkK [] 1 K) = K .normal [] H') ∧
      H'.f b = HB { x with bk := fun j => if i ≤ j ∧ j < 42 then x.bk j + y.bk j else x.bk j } ∧ Fr (fun c => c = b) H H'
  | 0, i, hi, x, H, hf, hb, hx => by
    have h : ¬ (i : Int) < 42 := by omega
    refine ⟨H, fun K => ?_, ?_, Fr.refl H⟩
    · rw [r_stats_Histogram_join_0]
      simp (disch := first | with_reducible rfl | assumption | omega | rfl | (simp only [go_sem]; first | done | omega)) only [go_sem, ↓reduceIte, reduceCtorEq, Nat.reduceEqDiff, Nat.reduceAdd, Nat.reduceSub, Nat.reduceMul, Nat.reduceDiv, Nat.reduceMod, Nat.reduceLeDiff, Nat.reduceLT, Nat.reduceBEq, Int.reduceEq, Int.reduceBEq, Int.reduceBNe, Int.reduceLT, Int.reduceLE, Int.reduceAdd, Int.reduceSub, Int.reduceNeg, Int.reduceToNat, Int.reducePow, Nat.reducePow, Int.reduceMul, Int.reduceDiv, ↓s_stats_Histogram_join_b0, h]
    · rw [hf]
      have : (fun j => if i ≤ j ∧ j < 42 then x.bk j + y.bk j else x.bk j) = x.bk := by
        funext j
        rw [if_neg (by omega)]
      rw [this]
  | d + 1, i, hi, x, H, hf, hb, hx => by
    have h : (i : Int) < 42 := by omega
    have h' : i < 42 := by omega
    have r1 := hx i (Nat.le_refl _) h'
    have r2 := hy i h'
    have b0 : (0 : Int) ≤ (i : Int) ∧ (i : Int) < (42 : Nat) := by omega
    have hix := bk_ix y h'
    have hcell := hv_i x h'
    have hset := hv_seti x h' (x.bk i + y.bk i)
    obtain ⟨H1, hH1⟩ : ∃ H1, H.set b (HB { x with bk := upd x.bk i (x.bk i + y.bk i) }) = H1 := ⟨_, rfl⟩
    obtain ⟨H', hl, hf', hfr⟩ := l_join b y hy d (i + 1) (by omega) { x with bk := upd x.bk i (x.bk i + y.bk i) } H1 (by rw [← hH1]; exact set_f_eq) (by rw [← hH1]; exact hb) (fun j h1 h2 => by
      have : ¬ j = i := by omega
      simp only [upd, this, if_false]
      exact hx j (by omega) h2)
    refine ⟨H', fun K => ?_, ?_, ?_⟩
    · have ih := hl K
      rw [Int.natCast_add] at ih
      rw [r_stats_Histogram_join_0]
      simp (disch := first | with_reducible rfl | assumption | omega | rfl | (simp only [go_sem]; first | done | omega)) only [go_sem, ↓reduceIte, reduceCtorEq, Nat.reduceEqDiff, Nat.reduceAdd, Nat.reduceSub, Nat.reduceMul, Nat.reduceDiv, Nat.reduceMod, Nat.reduceLeDiff, Nat.reduceLT, Nat.reduceBEq, Int.reduceEq, Int.reduceBEq, Int.reduceBNe, Int.reduceLT, Int.reduceLE, Int.reduceAdd, Int.reduceSub, Int.reduceNeg, Int.reduceToNat, Int.reducePow, Nat.reducePow, Int.reduceMul, Int.reduceDiv, ↓s_stats_Histogram_join_b0, h, hix, hf, hcell, hset, hH1, Int.toNat_natCast, Nat.zero_add, Nat.mul_one, b0]
      exact ih
    · rw [hf']
      congr 3
      funext j
      simp only [upd]
      by_cases e : j = i
      · subst e
        rw [if_neg (by omega), if_pos rfl, if_pos ⟨Nat.le_refl _, h'⟩]
      · rw [if_neg e]
        by_cases e2 : i ≤ j ∧ j < 42
        · rw [if_pos e2, if_pos (by omega)]
        · rw [if_neg e2, if_neg (by omega)]
    · refine Fr.trans ?_ hfr
      rw [← hH1]
      exact (Fr.refl H).set b _ fun _ => rfl

theorem Fr.turned {S : Nat → Prop} {H H6 H' : AHeap} {b : Nat} (h : Fr S H6 H') (hb : b < H6.n) (h1 : H.clk ≤ H6.ver b) (h2 : H.clk ≤ H6.clk) : H.clk ≤ H'.ver b := by
  rcases h.old b hb with ⟨e, _⟩ | ⟨e, _⟩
  · rw [e]; exact h1
  · exact Nat.le_trans h2 e

def joinH (x y : Hi) : Hi := ⟨fun j => if j < 42 then x.bk j + y.bk j else x.bk j, x.c + y.c, x.s + y.s, min (if empB x = true then y.l else x.l) y.l, max x.h y.h⟩

structure OkI (x : Hi) : Prop where
  bk : ∀ i, i < 42 → 0 ≤ x.bk i ∧ x.bk i ≤ 1099511627776
  c : 0 ≤ x.c ∧ x.c ≤ 1099511627776
  s : 0 ≤ x.s ∧ x.s ≤ 4611686018427387904

theorem q_join (x y : Hi) (b : Nat) (H : AHeap) (hf : H.f b = HB x) (hb : b < H.n) (ok : ∀ b, H.ver b < H.clk) (hx : OkI x) (hy : OkI y) (f1 : ¬ 1099511627776 - x.c < y.c) (f2 : ¬ 4611686018427387904 - x.s < y.s) (he : empB y = false) :
    ∃ H', CC F.stats_Histogram_join [.pointer (some ⟨b, 0, none⟩), .agg ⟨hv y⟩] H = some (.int .i64 0, H') ∧ H'.f b = HB (joinH x y) ∧ Fr (fun c => c = b) H H' ∧ H.clk ≤ H'.ver b := by
  obtain ⟨xb, xc, xs, xl, xh⟩ := x
  obtain ⟨yb, yc, ys, yl, yh⟩ := y
  obtain ⟨hx1, hx2, hx3⟩ := hx
  obtain ⟨hy1, hy2, hy3⟩ := hy
  simp only at hx1 hx2 hx3 hy1 hy2 hy3 f1 f2
  obtain ⟨H1, hH1⟩ : ∃ H1, H.push (.cells (hv ⟨yb, yc, ys, yl, yh⟩) T.stats_Histogram true) = H1 := ⟨_, rfl⟩
  have n1 : H1.n = H.n + 1 := by rw [← hH1]; rfl
  have s1 : Still H H1 := by rw [← hH1]; exact (Fr.refl H).push _
  have g1 : H1.f H.n = .cells (hv ⟨yb, yc, ys, yl, yh⟩) T.stats_Histogram true := by rw [← hH1]; exact push_f_eq rfl
  have g1b : H1.f b = .cells (hv ⟨xb, xc, xs, xl, xh⟩) T.stats_Histogram true := by rw [← hH1, push_f_ne (by omega)]; exact hf
  have e1 := q_empty ⟨yb, yc, ys, yl, yh⟩ H.n H1 g1
  rw [he] at e1
  have e2 := q_empty ⟨xb, xc, xs, xl, xh⟩ b H1 g1b
  have hd1 := decide_eq_false f1
  have hd2 := decide_eq_false f2
  obtain ⟨L, hL⟩ : ∃ L, (if empB ⟨xb, xc, xs, xl, xh⟩ = true then yl else xl) = L := ⟨_, rfl⟩
  -- behind the switch
  obtain ⟨H2, hH2, g2, g2b, fr2, hc2⟩ : ∃ H2, (if empB ⟨xb, xc, xs, xl, xh⟩ = true then H1.set b (.cells (hv ⟨xb, xc, xs, yl, xh⟩) T.stats_Histogram true) else H1) = H2 ∧ H2.f H.n = .cells (hv ⟨yb, yc, ys, yl, yh⟩) T.stats_Histogram true ∧
      H2.f b = .cells (hv ⟨xb, xc, xs, L, xh⟩) T.stats_Histogram true ∧ Fr (fun c => c = b) H H2 ∧ H2.n = H1.n := by
    refine ⟨_, rfl, ?_, ?_, ?_, ?_⟩
    · split
      · rw [set_f_ne (by omega)]; exact g1
      · exact g1
    · rw [← hL]
      split
      · exact set_f_eq
      · exact g1b
    · split
      · exact Fr.set s1.still _ _ fun _ => rfl
      · exact s1.still
    · split <;> rfl
  obtain ⟨H3, hH3⟩ : ∃ H3, H2.set b (.cells (hv ⟨xb, xc, xs, min L yl, xh⟩) T.stats_Histogram true) = H3 := ⟨_, rfl⟩
  have g3 : H3.f H.n = .cells (hv ⟨yb, yc, ys, yl, yh⟩) T.stats_Histogram true := by rw [← hH3, set_f_ne (by omega)]; exact g2
  have g3b : H3.f b = .cells (hv ⟨xb, xc, xs, min L yl, xh⟩) T.stats_Histogram true := by rw [← hH3]; exact set_f_eq
  have fr3 : Fr (fun c => c = b) H H3 := by rw [← hH3]; exact Fr.set fr2 _ _ fun _ => rfl
  obtain ⟨H4, hH4⟩ : ∃ H4, H3.set b (.cells (hv ⟨xb, xc, xs, min L yl, max xh yh⟩) T.stats_Histogram true) = H4 := ⟨_, rfl⟩
  have g4 : H4.f H.n = .cells (hv ⟨yb, yc, ys, yl, yh⟩) T.stats_Histogram true := by rw [← hH4, set_f_ne (by omega)]; exact g3
  have g4b : H4.f b = .cells (hv ⟨xb, xc, xs, min L yl, max xh yh⟩) T.stats_Histogram true := by rw [← hH4]; exact set_f_eq
  have fr4 : Fr (fun c => c = b) H H4 := by rw [← hH4]; exact Fr.set fr3 _ _ fun _ => rfl
  obtain ⟨H5, hH5⟩ : ∃ H5, H4.set b (.cells (hv ⟨xb, xc + yc, xs, min L yl, max xh yh⟩) T.stats_Histogram true) = H5 := ⟨_, rfl⟩
  have g5 : H5.f H.n = .cells (hv ⟨yb, yc, ys, yl, yh⟩) T.stats_Histogram true := by rw [← hH5, set_f_ne (by omega)]; exact g4
  have g5b : H5.f b = .cells (hv ⟨xb, xc + yc, xs, min L yl, max xh yh⟩) T.stats_Histogram true := by rw [← hH5]; exact set_f_eq
  have fr5 : Fr (fun c => c = b) H H5 := by rw [← hH5]; exact Fr.set fr4 _ _ fun _ => rfl
  obtain ⟨H6, hH6⟩ : ∃ H6, H5.set b (.cells (hv ⟨xb, xc + yc, xs + ys, min L yl, max xh yh⟩) T.stats_Histogram true) = H6 := ⟨_, rfl⟩
  have g6 : H6.f H.n = .cells (hv ⟨yb, yc, ys, yl, yh⟩) T.stats_Histogram true := by rw [← hH6, set_f_ne (by omega)]; exact g5
  have g6b : H6.f b = .cells (hv ⟨xb, xc + yc, xs + ys, min L yl, max xh yh⟩) T.stats_Histogram true := by rw [← hH6]; exact set_f_eq
  have fr6 : Fr (fun c => c = b) H H6 := by rw [← hH6]; exact Fr.set fr5 _ _ fun _ => rfl
  have v6 : H.clk ≤ H6.ver b := by rw [← hH6, set_v_eq]; exact fr5.clk
  have n6 : b < H6.n := Nat.lt_of_lt_of_le hb fr6.n
  obtain ⟨H7, hl, g7, fr7⟩ := l_join b ⟨yb, yc, ys, yl, yh⟩ hy1 42 0 rfl ⟨xb, xc + yc, xs + ys, min L yl, max xh yh⟩ H6 g6b n6 (fun j _ h => hx1 j h)
  refine ⟨H7, (d_stats_Histogram_join _ _ H (r := (.int .i64 0, H7)) ?_).trans (congrArg some (tidy_turned hb (ok b) (Fr.turned fr7 n6 v6 fr6.clk))), ?_, fr6.trans fr7, Fr.turned fr7 n6 v6 fr6.clk⟩
  · cases hE : empB ⟨xb, xc, xs, xl, xh⟩ with
    | true =>
      rw [hE] at hH2 e2
      rw [if_pos rfl] at hH2
      obtain rfl : yl = L := by rw [← hL, hE]; rfl
      simp (disch := first | with_reducible rfl | assumption | omega | rfl | (simp only [go_sem]; first | done | omega)) only [go_sem, ↓reduceIte, reduceCtorEq, Nat.reduceEqDiff, Nat.reduceAdd, Nat.reduceSub, Nat.reduceMul, Nat.reduceDiv, Nat.reduceMod, Nat.reduceLeDiff, Nat.reduceLT, Nat.reduceBEq, Int.reduceEq, Int.reduceBEq, Int.reduceBNe, Int.reduceLT, Int.reduceLE, Int.reduceAdd, Int.reduceSub, Int.reduceNeg, Int.reduceToNat, Int.reducePow, Nat.reducePow, Int.reduceMul, Int.reduceDiv, ↓s_stats_Histogram_join, hH1, g1, g1b, hd1, hd2, ↓enterK_eq e1, enterK_eq e1, ↓enterK_eq e2, enterK_eq e2, hH2, g2, g2b, hH3, g3, g3b, hH4, g4, g4b, hH5, g5, g5b, hH6, g6]
      exact hl _
    | false =>
      rw [hE] at hH2 e2
      rw [if_neg (by decide)] at hH2
      subst hH2
      obtain rfl : xl = L := by rw [← hL, hE]; rfl
      simp (disch := first | with_reducible rfl | assumption | omega | rfl | (simp only [go_sem]; first | done | omega)) only [go_sem, ↓reduceIte, reduceCtorEq, Nat.reduceEqDiff, Nat.reduceAdd, Nat.reduceSub, Nat.reduceMul, Nat.reduceDiv, Nat.reduceMod, Nat.reduceLeDiff, Nat.reduceLT, Nat.reduceBEq, Int.reduceEq, Int.reduceBEq, Int.reduceBNe, Int.reduceLT, Int.reduceLE, Int.reduceAdd, Int.reduceSub, Int.reduceNeg, Int.reduceToNat, Int.reducePow, Nat.reducePow, Int.reduceMul, Int.reduceDiv, ↓s_stats_Histogram_join, hH1, g1, g1b, hd1, hd2, ↓enterK_eq e1, enterK_eq e1, ↓enterK_eq e2, enterK_eq e2, g2, g2b, hH3, g3, g3b, hH4, g4, g4b, hH5, g5, g5b, hH6, g6]
      exact hl _
  · rw [g7]
    unfold joinH
    simp only [Nat.zero_le, true_and, hL]

theorem q_join_full (x y : Hi) (b : Nat) (H : AHeap) (hf : H.f b = HB x) (hb : b < H.n) (hx : OkI x) (hy : OkI y) (f1 : 1099511627776 - x.c < y.c ∨ 4611686018427387904 - x.s < y.s) :
    CC F.stats_Histogram_join [.pointer (some ⟨b, 0, none⟩), .agg ⟨hv y⟩] H = some (.int .i64 7, H) := by
  obtain ⟨xb, xc, xs, xl, xh⟩ := x
  obtain ⟨yb, yc, ys, yl, yh⟩ := y
  obtain ⟨hx1, hx2, hx3⟩ := hx
  obtain ⟨hy1, hy2, hy3⟩ := hy
  simp only at hx2 hx3 hy2 hy3 f1
  obtain ⟨H1, hH1⟩ : ∃ H1, H.push (.cells (hv ⟨yb, yc, ys, yl, yh⟩) T.stats_Histogram true) = H1 := ⟨_, rfl⟩
  have s1 : Still H H1 := by rw [← hH1]; exact (Fr.refl H).push _
  have g1 : H1.f H.n = .cells (hv ⟨yb, yc, ys, yl, yh⟩) T.stats_Histogram true := by rw [← hH1]; exact push_f_eq rfl
  have g1b : H1.f b = .cells (hv ⟨xb, xc, xs, xl, xh⟩) T.stats_Histogram true := by rw [← hH1, push_f_ne (by omega)]; exact hf
  by_cases hc : 1099511627776 - xc < yc
  · apply pure_of _ (d_stats_Histogram_join _ _ H) rfl
    rotate_left 2
    · simp (disch := first | with_reducible rfl | assumption | omega | rfl | (simp only [go_sem]; first | done | omega)) only [go_sem, ↓reduceIte, reduceCtorEq, Nat.reduceEqDiff, Nat.reduceAdd, Nat.reduceSub, Nat.reduceMul, Nat.reduceDiv, Nat.reduceMod, Nat.reduceLeDiff, Nat.reduceLT, Nat.reduceBEq, Int.reduceEq, Int.reduceBEq, Int.reduceBNe, Int.reduceLT, Int.reduceLE, Int.reduceAdd, Int.reduceSub, Int.reduceNeg, Int.reduceToNat, Int.reducePow, Nat.reducePow, Int.reduceMul, Int.reduceDiv, ↓s_stats_Histogram_join, hH1, g1, g1b, decide_eq_true hc]
      rfl
    · exact s1
  · have hc2 := f1.resolve_left hc
    apply pure_of _ (d_stats_Histogram_join _ _ H) rfl
    rotate_left 2
    · simp (disch := first | with_reducible rfl | assumption | omega | rfl | (simp only [go_sem]; first | done | omega)) only [go_sem, ↓reduceIte, reduceCtorEq, Nat.reduceEqDiff, Nat.reduceAdd, Nat.reduceSub, Nat.reduceMul, Nat.reduceDiv, Nat.reduceMod, Nat.reduceLeDiff, Nat.reduceLT, Nat.reduceBEq, Int.reduceEq, Int.reduceBEq, Int.reduceBNe, Int.reduceLT, Int.reduceLE, Int.reduceAdd, Int.reduceSub, Int.reduceNeg, Int.reduceToNat, Int.reducePow, Nat.reducePow, Int.reduceMul, Int.reduceDiv, ↓s_stats_Histogram_join, hH1, g1, g1b, decide_eq_false hc, decide_eq_true hc2]
      rfl
    · exact s1

theorem q_join_empty (x y : Hi) (b : Nat) (H : AHeap) (hf : H.f b = HB x) (hb : b < H.n) (hx : OkI x) (hy : OkI y) (f1 : ¬ 1099511627776 - x.c < y.c) (f2 : ¬ 4611686018427387904 - x.s < y.s) (he : empB y = true) :
    CC F.stats_Histogram_join [.pointer (some ⟨b, 0, none⟩), .agg ⟨hv y⟩] H = some (.int .i64 0, H) := by
  obtain ⟨xb, xc, xs, xl, xh⟩ := x
  obtain ⟨yb, yc, ys, yl, yh⟩ := y
  obtain ⟨hx1, hx2, hx3⟩ := hx
  obtain ⟨hy1, hy2, hy3⟩ := hy
  simp only at hx2 hx3 hy2 hy3 f1 f2
  obtain ⟨H1, hH1⟩ : ∃ H1, H.push (.cells (hv ⟨yb, yc, ys, yl, yh⟩) T.stats_Histogram true) = H1 := ⟨_, rfl⟩
  have s1 : Still H H1 := by rw [← hH1]; exact (Fr.refl H).push _
  have g1 : H1.f H.n = .cells (hv ⟨yb, yc, ys, yl, yh⟩) T.stats_Histogram true := by rw [← hH1]; exact push_f_eq rfl
  have g1b : H1.f b = .cells (hv ⟨xb, xc, xs, xl, xh⟩) T.stats_Histogram true := by rw [← hH1, push_f_ne (by omega)]; exact hf
  have e1 := q_empty ⟨yb, yc, ys, yl, yh⟩ H.n H1 g1
  rw [he] at e1
  apply pure_of _ (d_stats_Histogram_join _ _ H) rfl
  rotate_left 2
  · simp (disch := first | with_reducible rfl | assumption | omega | rfl | (simp only [go_sem]; first | done | omega)) only [go_sem, ↓reduceIte, reduceCtorEq, Nat.reduceEqDiff, Nat.reduceAdd, Nat.reduceSub, Nat.reduceMul, Nat.reduceDiv, Nat.reduceMod, Nat.reduceLeDiff, Nat.reduceLT, Nat.reduceBEq, Int.reduceEq, Int.reduceBEq, Int.reduceBNe, Int.reduceLT, Int.reduceLE, Int.reduceAdd, Int.reduceSub, Int.reduceNeg, Int.reduceToNat, Int.reducePow, Nat.reducePow, Int.reduceMul, Int.reduceDiv, ↓s_stats_Histogram_join, hH1, g1, g1b, decide_eq_false f1, decide_eq_false f2, ↓enterK_eq e1, enterK_eq e1]
    rfl
  · exact s1

end Go.Proofs.Ytplblfcofplcmaa

/-
  Chapter 26: what a histogram tells; counting, merging, copying.
  Conditions: none. By an AI agent.
-/
set_option maxRecDepth 10000
set_option linter.unusedSimpArgs false
set_option linter.unusedVariables false
namespace Go.Proofs.Ytplblfcofplcmaa
open Go Eng

@[go_sem] theorem hp_some {ox oy : Operand} {a : Addr} : xbin Try.prog .eql T.p_stats_Histogram ox oy (.pointer (some a)) (.pointer none) = some (.bool false) := by kernel_rfl

theorem q_check (x : Hi) (b : Nat) (H : AHeap) (hf : H.f b = HB x) : CC F.stats_Histogram_check [.pointer (some ⟨b, 0, none⟩)] H = some (.int .i64 (if empB x = true then 9 else 0), H) := by
  have e := q_empty x b H hf
  cases hE : empB x <;> rw [hE] at e <;>
  · apply pure_of _ (d_stats_Histogram_check _ H) rfl
    rotate_left 2
    · simp (disch := first | with_reducible rfl | assumption | omega | rfl | (simp only [go_sem]; first | done | omega)) only [go_sem, ↓reduceIte, reduceCtorEq, Nat.reduceEqDiff, Nat.reduceAdd, Nat.reduceSub, Nat.reduceMul, Nat.reduceDiv, Nat.reduceMod, Nat.reduceLeDiff, Nat.reduceLT, Nat.reduceBEq, Int.reduceEq, Int.reduceBEq, Int.reduceBNe, Int.reduceLT, Int.reduceLE, Int.reduceAdd, Int.reduceSub, Int.reduceNeg, Int.reduceToNat, Int.reducePow, Nat.reducePow, Int.reduceMul, Int.reduceDiv, ↓s_stats_Histogram_check, ↓enterK_eq e, enterK_eq e]
      rfl
    · (repeat (first | exact Fr.refl _ | refine Fr.push ?_ _ | refine Fr.set ?_ _ _ (by intro h; first | omega | (simp only [go_sem] at h; omega))))
theorem q_Min (x : Hi) (b : Nat) (H : AHeap) (hf : H.f b = HB x) : CC F.stats_Histogram_Min [.pointer (some ⟨b, 0, none⟩)] H = some (.tuple ⟨[.int .i64 (if empB x = true then 0 else x.l), .int .i64 (if empB x = true then 9 else 0)]⟩, H) := by
  have e := q_check x b H hf
  cases hE : empB x <;> rw [hE] at e
  · rw [if_neg (by decide)] at e
    apply pure_of _ (d_stats_Histogram_Min _ H) rfl
    rotate_left 2
    · simp (disch := first | with_reducible rfl | assumption | omega | rfl | (simp only [go_sem]; first | done | omega)) only [go_sem, ↓reduceIte, reduceCtorEq, Nat.reduceEqDiff, Nat.reduceAdd, Nat.reduceSub, Nat.reduceMul, Nat.reduceDiv, Nat.reduceMod, Nat.reduceLeDiff, Nat.reduceLT, Nat.reduceBEq, Int.reduceEq, Int.reduceBEq, Int.reduceBNe, Int.reduceLT, Int.reduceLE, Int.reduceAdd, Int.reduceSub, Int.reduceNeg, Int.reduceToNat, Int.reducePow, Nat.reducePow, Int.reduceMul, Int.reduceDiv, ↓s_stats_Histogram_Min, ↓enterK_eq e, enterK_eq e, hf, hv_44]
      rfl
    · (repeat (first | exact Fr.refl _ | refine Fr.push ?_ _ | refine Fr.set ?_ _ _ (by intro h; first | omega | (simp only [go_sem] at h; omega))))
  · rw [if_pos rfl] at e
    apply pure_of _ (d_stats_Histogram_Min _ H) rfl
    rotate_left 2
    · simp (disch := first | with_reducible rfl | assumption | omega | rfl | (simp only [go_sem]; first | done | omega)) only [go_sem, ↓reduceIte, reduceCtorEq, Nat.reduceEqDiff, Nat.reduceAdd, Nat.reduceSub, Nat.reduceMul, Nat.reduceDiv, Nat.reduceMod, Nat.reduceLeDiff, Nat.reduceLT, Nat.reduceBEq, Int.reduceEq, Int.reduceBEq, Int.reduceBNe, Int.reduceLT, Int.reduceLE, Int.reduceAdd, Int.reduceSub, Int.reduceNeg, Int.reduceToNat, Int.reducePow, Nat.reducePow, Int.reduceMul, Int.reduceDiv, ↓s_stats_Histogram_Min, ↓enterK_eq e, enterK_eq e]
      rfl
    · (repeat (first | exact Fr.refl _ | refine Fr.push ?_ _ | refine Fr.set ?_ _ _ (by intro h; first | omega | (simp only [go_sem] at h; omega))))
theorem q_Max (x : Hi) (b : Nat) (H : AHeap) (hf : H.f b = HB x) : CC F.stats_Histogram_Max [.pointer (some ⟨b, 0, none⟩)] H = some (.tuple ⟨[.int .i64 (if empB x = true then 0 else x.h), .int .i64 (if empB x = true then 9 else 0)]⟩, H) := by
  have e := q_check x b H hf
  cases hE : empB x <;> rw [hE] at e
  · rw [if_neg (by decide)] at e
    apply pure_of _ (d_stats_Histogram_Max _ H) rfl
    rotate_left 2
    · simp (disch := first | with_reducible rfl | assumption | omega | rfl | (simp only [go_sem]; first | done | omega)) only [go_sem, ↓reduceIte, reduceCtorEq, Nat.reduceEqDiff, Nat.reduceAdd, Nat.reduceSub, Nat.reduceMul, Nat.reduceDiv, Nat.reduceMod, Nat.reduceLeDiff, Nat.reduceLT, Nat.reduceBEq, Int.reduceEq, Int.reduceBEq, Int.reduceBNe, Int.reduceLT, Int.reduceLE, Int.reduceAdd, Int.reduceSub, Int.reduceNeg, Int.reduceToNat, Int.reducePow, Nat.reducePow, Int.reduceMul, Int.reduceDiv, ↓s_stats_Histogram_Max, ↓enterK_eq e, enterK_eq e, hf, hv_45]
      rfl
    · (repeat (first | exact Fr.refl _ | refine Fr.push ?_ _ | refine Fr.set ?_ _ _ (by intro h; first | omega | (simp only [go_sem] at h; omega))))
  · rw [if_pos rfl] at e
    apply pure_of _ (d_stats_Histogram_Max _ H) rfl
    rotate_left 2
    · simp (disch := first | with_reducible rfl | assumption | omega | rfl | (simp only [go_sem]; first | done | omega)) only [go_sem, ↓reduceIte, reduceCtorEq, Nat.reduceEqDiff, Nat.reduceAdd, Nat.reduceSub, Nat.reduceMul, Nat.reduceDiv, Nat.reduceMod, Nat.reduceLeDiff, Nat.reduceLT, Nat.reduceBEq, Int.reduceEq, Int.reduceBEq, Int.reduceBNe, Int.reduceLT, Int.reduceLE, Int.reduceAdd, Int.reduceSub, Int.reduceNeg, Int.reduceToNat, Int.reducePow, Nat.reducePow, Int.reduceMul, Int.reduceDiv, ↓s_stats_Histogram_Max, ↓enterK_eq e, enterK_eq e]
      rfl
    · (repeat (first | exact Fr.refl _ | refine Fr.push ?_ _ | refine Fr.set ?_ _ _ (by intro h; first | omega | (simp only [go_sem] at h; omega))))
theorem q_Mean (x : Hi) (b : Nat) (H : AHeap) (hf : H.f b = HB x) (hs : 0 ≤ x.s ∧ x.s ≤ 4611686018427387904) (hc : empB x = true ∨ 0 < x.c) : CC F.stats_Histogram_Mean [.pointer (some ⟨b, 0, none⟩)] H = some (.tuple ⟨[.int .i64 (if empB x = true then 0 else x.s / x.c), .int .i64 (if empB x = true then 9 else 0)]⟩, H) := by
  have e := q_check x b H hf
  cases hE : empB x <;> rw [hE] at e
  · rw [if_neg (by decide)] at e
    have hc' : 0 < x.c := hc.resolve_left (by rw [hE]; decide)
    have hq : ∀ ox oy, xbin Try.prog .quo T.int ox oy (.int .i64 x.s) (.int .i64 x.c) = some (.int .i64 (x.s / x.c)) := fun ox oy => quoI hs.1 hc' (by omega)
    apply pure_of _ (d_stats_Histogram_Mean _ H) rfl
    rotate_left 2
    · simp (disch := first | with_reducible rfl | assumption | omega | rfl | (simp only [go_sem]; first | done | omega)) only [go_sem, ↓reduceIte, reduceCtorEq, Nat.reduceEqDiff, Nat.reduceAdd, Nat.reduceSub, Nat.reduceMul, Nat.reduceDiv, Nat.reduceMod, Nat.reduceLeDiff, Nat.reduceLT, Nat.reduceBEq, Int.reduceEq, Int.reduceBEq, Int.reduceBNe, Int.reduceLT, Int.reduceLE, Int.reduceAdd, Int.reduceSub, Int.reduceNeg, Int.reduceToNat, Int.reducePow, Nat.reducePow, Int.reduceMul, Int.reduceDiv, ↓s_stats_Histogram_Mean, ↓enterK_eq e, enterK_eq e, hf, ↓hq, hq]
      rfl
    · (repeat (first | exact Fr.refl _ | refine Fr.push ?_ _ | refine Fr.set ?_ _ _ (by intro h; first | omega | (simp only [go_sem] at h; omega))))
  · rw [if_pos rfl] at e
    apply pure_of _ (d_stats_Histogram_Mean _ H) rfl
    rotate_left 2
    · simp (disch := first | with_reducible rfl | assumption | omega | rfl | (simp only [go_sem]; first | done | omega)) only [go_sem, ↓reduceIte, reduceCtorEq, Nat.reduceEqDiff, Nat.reduceAdd, Nat.reduceSub, Nat.reduceMul, Nat.reduceDiv, Nat.reduceMod, Nat.reduceLeDiff, Nat.reduceLT, Nat.reduceBEq, Int.reduceEq, Int.reduceBEq, Int.reduceBNe, Int.reduceLT, Int.reduceLE, Int.reduceAdd, Int.reduceSub, Int.reduceNeg, Int.reduceToNat, Int.reducePow, Nat.reducePow, Int.reduceMul, Int.reduceDiv, ↓s_stats_Histogram_Mean, ↓enterK_eq e, enterK_eq e]
      rfl
    · (repeat (first | exact Fr.refl _ | refine Fr.push ?_ _ | refine Fr.set ?_ _ _ (by intro h; first | omega | (simp only [go_sem] at h; omega))))
theorem q_Count (x : Hi) (b : Nat) (H : AHeap) (hf : H.f b = HB x) : CC F.stats_Histogram_Count [.pointer (some ⟨b, 0, none⟩)] H = some (.int .i64 x.c, H) := by
  apply pure_of _ (d_stats_Histogram_Count _ H) rfl
  rotate_left 2
  · simp (disch := first | with_reducible rfl | assumption | omega | rfl | (simp only [go_sem]; first | done | omega)) only [go_sem, ↓reduceIte, reduceCtorEq, Nat.reduceEqDiff, Nat.reduceAdd, Nat.reduceSub, Nat.reduceMul, Nat.reduceDiv, Nat.reduceMod, Nat.reduceLeDiff, Nat.reduceLT, Nat.reduceBEq, Int.reduceEq, Int.reduceBEq, Int.reduceBNe, Int.reduceLT, Int.reduceLE, Int.reduceAdd, Int.reduceSub, Int.reduceNeg, Int.reduceToNat, Int.reducePow, Nat.reducePow, Int.reduceMul, Int.reduceDiv, ↓s_stats_Histogram_Count, hf]
    rfl
  · (repeat (first | exact Fr.refl _ | refine Fr.push ?_ _ | refine Fr.set ?_ _ _ (by intro h; first | omega | (simp only [go_sem] at h; omega))))
theorem q_Sum (x : Hi) (b : Nat) (H : AHeap) (hf : H.f b = HB x) : CC F.stats_Histogram_Sum [.pointer (some ⟨b, 0, none⟩)] H = some (.int .i64 x.s, H) := by
  apply pure_of _ (d_stats_Histogram_Sum _ H) rfl
  rotate_left 2
  · simp (disch := first | with_reducible rfl | assumption | omega | rfl | (simp only [go_sem]; first | done | omega)) only [go_sem, ↓reduceIte, reduceCtorEq, Nat.reduceEqDiff, Nat.reduceAdd, Nat.reduceSub, Nat.reduceMul, Nat.reduceDiv, Nat.reduceMod, Nat.reduceLeDiff, Nat.reduceLT, Nat.reduceBEq, Int.reduceEq, Int.reduceBEq, Int.reduceBNe, Int.reduceLT, Int.reduceLE, Int.reduceAdd, Int.reduceSub, Int.reduceNeg, Int.reduceToNat, Int.reducePow, Nat.reducePow, Int.reduceMul, Int.reduceDiv, ↓s_stats_Histogram_Sum, hf]
    rfl
  · (repeat (first | exact Fr.refl _ | refine Fr.push ?_ _ | refine Fr.set ?_ _ _ (by intro h; first | omega | (simp only [go_sem] at h; omega))))

theorem bk_push {H : AHeap} : newv T.n42_int (.agg #[(.int .i64 0), (.int .i64 0), (.int .i64 0), (.int .i64 0), (.int .i64 0), (.int .i64 0), (.int .i64 0), (.int .i64 0), (.int .i64 0), (.int .i64 0), (.int .i64 0), (.int .i64 0), (.int .i64 0), (.int .i64 0), (.int .i64 0), (.int .i64 0), (.int .i64 0), (.int .i64 0), (.int .i64 0), (.int .i64 0), (.int .i64 0), (.int .i64 0), (.int .i64 0), (.int .i64 0), (.int .i64 0), (.int .i64 0), (.int .i64 0), (.int .i64 0), (.int .i64 0), (.int .i64 0), (.int .i64 0), (.int .i64 0), (.int .i64 0), (.int .i64 0), (.int .i64 0), (.int .i64 0), (.int .i64 0), (.int .i64 0), (.int .i64 0), (.int .i64 0), (.int .i64 0), (.int .i64 0)]) H = some (.pointer (some ⟨H.n, 0, none⟩), H.push (.cells (bkv zHi) T.n42_int true)) := rfl
theorem st_bk (x y : Hi) {H : AHeap} {b : Nat} (hf : H.f b = .cells (bkv x) T.n42_int true) : stN 42 H (.pointer (some ⟨b, 0, none⟩)) (.agg ⟨bkv y⟩) = some (H.set b (.cells (bkv y) T.n42_int true)) := by
  rw [stN_b (bkv_len y), hf, wrL_c (by rw [bkv_len, bkv_len]; decide) (one_bkv y), setB_s]
  have := spl_all (bkv y) [] (bkv x) (by rw [bkv_len, bkv_len])
  rw [List.nil_append, List.nil_append, List.length_nil] at this
  rw [this]
theorem cut_bk (x : Hi) : cutB (.cells (bkv x) T.n42_int true) 0 42 = some (bkv x) := rfl
theorem q_Buckets (x : Hi) (b : Nat) (H : AHeap) (hf : H.f b = HB x) (hb : b < H.n) : CC F.stats_Histogram_Buckets [.pointer (some ⟨b, 0, none⟩)] H = some (.agg ⟨bkv x⟩, H) := by
  obtain ⟨H1, hH1⟩ : ∃ H1, H.push (.cells (bkv zHi) T.n42_int true) = H1 := ⟨_, rfl⟩
  have s1 : Still H H1 := by rw [← hH1]; exact (Fr.refl H).push _
  have g1 : H1.f H.n = .cells (bkv zHi) T.n42_int true := by rw [← hH1]; exact push_f_eq rfl
  have g1b : H1.f b = .cells (hv x) T.stats_Histogram true := by rw [← hH1, push_f_ne (by omega)]; exact hf
  have hst := st_bk zHi x g1
  obtain ⟨H2, hH2⟩ : ∃ H2, H1.set H.n (.cells (bkv x) T.n42_int true) = H2 := ⟨_, rfl⟩
  rw [hH2] at hst
  have s2 : Still H H2 := by rw [← hH2]; exact Fr.set s1 _ _ fun h => by omega
  have g2 : H2.f H.n = .cells (bkv x) T.n42_int true := by rw [← hH2]; exact set_f_eq
  have hld : xload Try.prog T.n42_int (.pointer (some ⟨H.n, 0, none⟩)) H2 = some (.agg ⟨bkv x⟩) := by
    have e : xload Try.prog T.n42_int (.pointer (some ⟨H.n, 0, none⟩)) H2 = ldN 42 H2 (.pointer (some ⟨H.n, 0, none⟩)) := by
      unfold xload
      rw [show row? Try.prog T.n42_int = some true by kernel_rfl, show Try.prog.cellsOf T.n42_int = 42 by kernel_rfl]
    rw [e, ldN_b, g2, cut_bk]
    rfl
  apply pure_of _ (d_stats_Histogram_Buckets _ H) rfl
  rotate_left 2
  · simp (disch := first | with_reducible rfl | assumption | omega | rfl | (simp only [go_sem]; first | done | omega)) only [go_sem, ↓reduceIte, reduceCtorEq, Nat.reduceEqDiff, Nat.reduceAdd, Nat.reduceSub, Nat.reduceMul, Nat.reduceDiv, Nat.reduceMod, Nat.reduceLeDiff, Nat.reduceLT, Nat.reduceBEq, Int.reduceEq, Int.reduceBEq, Int.reduceBNe, Int.reduceLT, Int.reduceLE, Int.reduceAdd, Int.reduceSub, Int.reduceNeg, Int.reduceToNat, Int.reducePow, Nat.reducePow, Int.reduceMul, Int.reduceDiv, ↓s_stats_Histogram_Buckets, ↓bk_push, hH1, g1b, ↓hst, hst, g2, cut_bk, hld]
    rfl
  · exact s2

theorem q_Copy (x : Hi) (b : Nat) (H : AHeap) (hf : H.f b = HB x) (hb : b < H.n) : ∃ H', CC F.stats_Histogram_Copy [.pointer (some ⟨b, 0, none⟩)] H = some (.pointer (some ⟨H.n, 0, none⟩), H') ∧ H'.f H.n = HB x ∧ Still H H' ∧ H.n < H'.n := by
  obtain ⟨H1, hH1⟩ : ∃ H1, H.push (.cells (hv zHi) T.stats_Histogram true) = H1 := ⟨_, rfl⟩
  have s1 : Still H H1 := by rw [← hH1]; exact (Fr.refl H).push _
  have g1 : H1.f H.n = .cells (hv zHi) T.stats_Histogram true := by rw [← hH1]; exact push_f_eq rfl
  have g1b : H1.f b = .cells (hv x) T.stats_Histogram true := by rw [← hH1, push_f_ne (by omega)]; exact hf
  have hst := st_hv zHi x g1
  obtain ⟨H2, hH2⟩ : ∃ H2, H1.set H.n (HB x) = H2 := ⟨_, rfl⟩
  rw [hH2] at hst
  have s2 : Still H H2 := by rw [← hH2]; exact Fr.set s1 _ _ fun h => by omega
  have hp : newv T.stats_Histogram (.agg #[(.int .i64 0), (.int .i64 0), (.int .i64 0), (.int .i64 0), (.int .i64 0), (.int .i64 0), (.int .i64 0), (.int .i64 0), (.int .i64 0), (.int .i64 0), (.int .i64 0), (.int .i64 0), (.int .i64 0), (.int .i64 0), (.int .i64 0), (.int .i64 0), (.int .i64 0), (.int .i64 0), (.int .i64 0), (.int .i64 0), (.int .i64 0), (.int .i64 0), (.int .i64 0), (.int .i64 0), (.int .i64 0), (.int .i64 0), (.int .i64 0), (.int .i64 0), (.int .i64 0), (.int .i64 0), (.int .i64 0), (.int .i64 0), (.int .i64 0), (.int .i64 0), (.int .i64 0), (.int .i64 0), (.int .i64 0), (.int .i64 0), (.int .i64 0), (.int .i64 0), (.int .i64 0), (.int .i64 0), (.int .i64 0), (.int .i64 0), (.int .i64 0), (.int .i64 0)]) H = some (.pointer (some ⟨H.n, 0, none⟩), H1) := by rw [← hH1]; rfl
  refine ⟨H2, (d_stats_Histogram_Copy _ H (r := (.pointer (some ⟨H.n, 0, none⟩), H2)) ?_).trans (congrArg some (tidy_mem rfl)), by rw [← hH2]; exact set_f_eq, s2, by rw [← hH2, ← hH1]; exact Nat.lt_succ_self _⟩
  simp (disch := first | with_reducible rfl | assumption | omega | rfl | (simp only [go_sem]; first | done | omega)) only [go_sem, ↓reduceIte, reduceCtorEq, Nat.reduceEqDiff, Nat.reduceAdd, Nat.reduceSub, Nat.reduceMul, Nat.reduceDiv, Nat.reduceMod, Nat.reduceLeDiff, Nat.reduceLT, Nat.reduceBEq, Int.reduceEq, Int.reduceBEq, Int.reduceBNe, Int.reduceLT, Int.reduceLE, Int.reduceAdd, Int.reduceSub, Int.reduceNeg, Int.reduceToNat, Int.reducePow, Nat.reducePow, Int.reduceMul, Int.reduceDiv, ↓s_stats_Histogram_Copy, hf, ↓hp, ↓hst, hst]

/-! ### quantiles -/
def qtL (x : Hi) (p : Int) : Nat → Nat → Int → Int
  | 0, _, _ => x.h
  | d + 1, i, r => if 0 < x.bk i ∧ p * x.c ≤ 1000 * (r + x.bk i) then min (hiN i) x.h else qtL x p d (i + 1) (r + x.bk i)

theorem l_Quantile (x : Hi) (b : Nat) (p : Int) (H : AHeap) (hf : H.f b = HB x) (hx : OkI x) (hp : 0 ≤ p ∧ p ≤ 1000) (K : K) : ∀ (d i : Nat) (r : Int), i + d = 42 → 0 ≤ r ∧ r ≤ i * 1099511627776 →
    l_stats_Histogram_Quantile_0 (.pointer (some ⟨b, 0, none⟩)) (.int .i64 p) (.int .i64 r) (.agg ⟨bkv x⟩) (.int .i64 (i : Int)) H (blkK [0] 0 (seqK (fun tT h13 => bareK (xnilCheck (get tT 0)) h13 fun t65 h14 => bareK (fad 45 t65) h14 fun t66 h15 => bareK (ld1 h15 t66) h15 fun t67 h16 => K .ret [(4, t67), (5, (.int .i64 0))] h16) K)) =
      K .ret [(4, .int .i64 (qtL x p d i r)), (5, .int .i64 0)] H
  | 0, i, r, hi, hr => by
    have h : ¬ (i : Int) < 42 := by omega
    rw [r_stats_Histogram_Quantile_0, qtL]
    simp (disch := first | with_reducible rfl | assumption | omega | rfl | (simp only [go_sem]; first | done | omega)) only [go_sem, ↓reduceIte, reduceCtorEq, Nat.reduceEqDiff, Nat.reduceAdd, Nat.reduceSub, Nat.reduceMul, Nat.reduceDiv, Nat.reduceMod, Nat.reduceLeDiff, Nat.reduceLT, Nat.reduceBEq, Int.reduceEq, Int.reduceBEq, Int.reduceBNe, Int.reduceLT, Int.reduceLE, Int.reduceAdd, Int.reduceSub, Int.reduceNeg, Int.reduceToNat, Int.reducePow, Nat.reducePow, Int.reduceMul, Int.reduceDiv, ↓s_stats_Histogram_Quantile_b0, h, hf, hv_45]
  | d + 1, i, r, hi, hr => by
    have h : (i : Int) < 42 := by omega
    have h' : i < 42 := by omega
    have hk := hx.bk i h'
    have hix := bk_ix x h'
    have ih := l_Quantile x b p H hf hx hp K d (i + 1) (r + x.bk i) (by omega) (by omega)
    rw [Int.natCast_add] at ih
    have hm : ∀ ox oy, xbin Try.prog .mul T.int ox oy (.int .i64 p) (.int .i64 x.c) = some (.int .i64 (p * x.c)) := fun ox oy => by
      have h1 : p * x.c ≤ 1000 * 1099511627776 := Int.mul_le_mul hp.2 hx.c.2 hx.c.1 (by decide)
      have h2 : 0 ≤ p * x.c := Int.mul_nonneg hp.1 hx.c.1
      exact mul_i64 (by omega)
    obtain ⟨R, hR⟩ : ∃ R, r + x.bk i = R := ⟨_, rfl⟩
    rw [r_stats_Histogram_Quantile_0, qtL]
    rw [hR] at ih ⊢
    by_cases hp0 : 0 < x.bk i
    · by_cases hq : p * x.c ≤ 1000 * R
      · rw [if_pos ⟨hp0, hq⟩]
        simp (disch := first | with_reducible rfl | assumption | omega | rfl | (simp only [go_sem]; first | done | omega)) only [go_sem, ↓reduceIte, reduceCtorEq, Nat.reduceEqDiff, Nat.reduceAdd, Nat.reduceSub, Nat.reduceMul, Nat.reduceDiv, Nat.reduceMod, Nat.reduceLeDiff, Nat.reduceLT, Nat.reduceBEq, Int.reduceEq, Int.reduceBEq, Int.reduceBNe, Int.reduceLT, Int.reduceLE, Int.reduceAdd, Int.reduceSub, Int.reduceNeg, Int.reduceToNat, Int.reducePow, Nat.reducePow, Int.reduceMul, Int.reduceDiv, ↓s_stats_Histogram_Quantile_b0, h, hf, hix, hR, hp0, hm, decide_eq_true hq, enterK_eq (q_Bounds i (by omega) H), hv_45]
      · rw [if_neg fun h => hq h.2]
        simp (disch := first | with_reducible rfl | assumption | omega | rfl | (simp only [go_sem]; first | done | omega)) only [go_sem, ↓reduceIte, reduceCtorEq, Nat.reduceEqDiff, Nat.reduceAdd, Nat.reduceSub, Nat.reduceMul, Nat.reduceDiv, Nat.reduceMod, Nat.reduceLeDiff, Nat.reduceLT, Nat.reduceBEq, Int.reduceEq, Int.reduceBEq, Int.reduceBNe, Int.reduceLT, Int.reduceLE, Int.reduceAdd, Int.reduceSub, Int.reduceNeg, Int.reduceToNat, Int.reducePow, Nat.reducePow, Int.reduceMul, Int.reduceDiv, ↓s_stats_Histogram_Quantile_b0, h, hf, hix, hR, hp0, hm, decide_eq_false hq]
        exact ih
    · rw [if_neg fun h => hp0 h.1]
      simp (disch := first | with_reducible rfl | assumption | omega | rfl | (simp only [go_sem]; first | done | omega)) only [go_sem, ↓reduceIte, reduceCtorEq, Nat.reduceEqDiff, Nat.reduceAdd, Nat.reduceSub, Nat.reduceMul, Nat.reduceDiv, Nat.reduceMod, Nat.reduceLeDiff, Nat.reduceLT, Nat.reduceBEq, Int.reduceEq, Int.reduceBEq, Int.reduceBNe, Int.reduceLT, Int.reduceLE, Int.reduceAdd, Int.reduceSub, Int.reduceNeg, Int.reduceToNat, Int.reducePow, Nat.reducePow, Int.reduceMul, Int.reduceDiv, ↓s_stats_Histogram_Quantile_b0, h, hf, hix, hR, hp0]
      exact ih
theorem q_Quantile (x : Hi) (b : Nat) (p : Int) (H : AHeap) (hf : H.f b = HB x) (hx : OkI x) (hp : 0 ≤ p ∧ p ≤ 1000) : CC F.stats_Histogram_Quantile [.pointer (some ⟨b, 0, none⟩), .int .i64 p] H = some (.tuple ⟨[.int .i64 (if empB x = true then 0 else qtL x p 42 0 0), .int .i64 (if empB x = true then 9 else 0)]⟩, H) := by
  have e := q_check x b H hf
  have h1 : ¬ p < 0 := by omega
  have h2 : ¬ 1000 < p := by omega
  cases hE : empB x <;> rw [hE] at e
  · rw [if_neg (by decide)] at e
    have hl := l_Quantile x b p H hf hx hp (endK Try.prog [.tmp 4, .tmp 5]) 42 0 0 rfl (by omega)
    apply pure_of _ (d_stats_Histogram_Quantile _ _ H) rfl
    rotate_left 2
    · simp (disch := first | with_reducible rfl | assumption | omega | rfl | (simp only [go_sem]; first | done | omega)) only [go_sem, ↓reduceIte, reduceCtorEq, Nat.reduceEqDiff, Nat.reduceAdd, Nat.reduceSub, Nat.reduceMul, Nat.reduceDiv, Nat.reduceMod, Nat.reduceLeDiff, Nat.reduceLT, Nat.reduceBEq, Int.reduceEq, Int.reduceBEq, Int.reduceBNe, Int.reduceLT, Int.reduceLE, Int.reduceAdd, Int.reduceSub, Int.reduceNeg, Int.reduceToNat, Int.reducePow, Nat.reducePow, Int.reduceMul, Int.reduceDiv, ↓s_stats_Histogram_Quantile, ↓enterK_eq e, enterK_eq e, hf, h1, h2]
      first | exact hl | (rw [hl]; rfl)
    · (repeat (first | exact Fr.refl _ | refine Fr.push ?_ _ | refine Fr.set ?_ _ _ (by intro h; first | omega | (simp only [go_sem] at h; omega))))
  · rw [if_pos rfl] at e
    apply pure_of _ (d_stats_Histogram_Quantile _ _ H) rfl
    rotate_left 2
    · simp (disch := first | with_reducible rfl | assumption | omega | rfl | (simp only [go_sem]; first | done | omega)) only [go_sem, ↓reduceIte, reduceCtorEq, Nat.reduceEqDiff, Nat.reduceAdd, Nat.reduceSub, Nat.reduceMul, Nat.reduceDiv, Nat.reduceMod, Nat.reduceLeDiff, Nat.reduceLT, Nat.reduceBEq, Int.reduceEq, Int.reduceBEq, Int.reduceBNe, Int.reduceLT, Int.reduceLE, Int.reduceAdd, Int.reduceSub, Int.reduceNeg, Int.reduceToNat, Int.reducePow, Nat.reducePow, Int.reduceMul, Int.reduceDiv, ↓s_stats_Histogram_Quantile, ↓enterK_eq e, enterK_eq e, h1, h2]
      rfl
    · (repeat (first | exact Fr.refl _ | refine Fr.push ?_ _ | refine Fr.set ?_ _ _ (by intro h; first | omega | (simp only [go_sem] at h; omega))))
theorem q_Quantile_bad (b : Nat) (p : Int) (H : AHeap) (hp : p < 0 ∨ 1000 < p) : CC F.stats_Histogram_Quantile [.pointer (some ⟨b, 0, none⟩), .int .i64 p] H = some (.tuple ⟨[.int .i64 0, .int .i64 2]⟩, H) := by
  by_cases h1 : p < 0
  · apply pure_of _ (d_stats_Histogram_Quantile _ _ H) rfl
    rotate_left 2
    · simp (disch := first | with_reducible rfl | assumption | omega | rfl | (simp only [go_sem]; first | done | omega)) only [go_sem, ↓reduceIte, reduceCtorEq, Nat.reduceEqDiff, Nat.reduceAdd, Nat.reduceSub, Nat.reduceMul, Nat.reduceDiv, Nat.reduceMod, Nat.reduceLeDiff, Nat.reduceLT, Nat.reduceBEq, Int.reduceEq, Int.reduceBEq, Int.reduceBNe, Int.reduceLT, Int.reduceLE, Int.reduceAdd, Int.reduceSub, Int.reduceNeg, Int.reduceToNat, Int.reducePow, Nat.reducePow, Int.reduceMul, Int.reduceDiv, ↓s_stats_Histogram_Quantile, h1]
      rfl
    · (repeat (first | exact Fr.refl _ | refine Fr.push ?_ _ | refine Fr.set ?_ _ _ (by intro h; first | omega | (simp only [go_sem] at h; omega))))
  · have h2 : 1000 < p := by omega
    apply pure_of _ (d_stats_Histogram_Quantile _ _ H) rfl
    rotate_left 2
    · simp (disch := first | with_reducible rfl | assumption | omega | rfl | (simp only [go_sem]; first | done | omega)) only [go_sem, ↓reduceIte, reduceCtorEq, Nat.reduceEqDiff, Nat.reduceAdd, Nat.reduceSub, Nat.reduceMul, Nat.reduceDiv, Nat.reduceMod, Nat.reduceLeDiff, Nat.reduceLT, Nat.reduceBEq, Int.reduceEq, Int.reduceBEq, Int.reduceBNe, Int.reduceLT, Int.reduceLE, Int.reduceAdd, Int.reduceSub, Int.reduceNeg, Int.reduceToNat, Int.reducePow, Nat.reducePow, Int.reduceMul, Int.reduceDiv, ↓s_stats_Histogram_Quantile, h1, h2]
      rfl
    · (repeat (first | exact Fr.refl _ | refine Fr.push ?_ _ | refine Fr.set ?_ _ _ (by intro h; first | omega | (simp only [go_sem] at h; omega))))

end Go.Proofs.Ytplblfcofplcmaa

/-
  Chapter 26: counting, merging; histograms as lists of numbers.
  Conditions: none. By an AI agent.
-/
set_option maxRecDepth 10000
set_option linter.unusedSimpArgs false
set_option linter.unusedVariables false
namespace Go.Proofs.Ytplblfcofplcmaa
open Go Eng

/-! ### lists -/
def mnL : List Nat → Nat
  | [] => 0
  | [a] => a
  | a :: b :: l => min a (mnL (b :: l))
def mxL : List Nat → Nat
  | [] => 0
  | a :: l => max a (mxL l)
def ofL (L : List Nat) : Hi := ⟨fun i => (L.countP fun n => lenN n == i : Nat), (L.length : Nat), (L.sum : Nat), (mnL L : Nat), (mxL L : Nat)⟩
def Low (L : List Nat) : Prop := ∀ n ∈ L, n ≤ 1099511627776

theorem mnL_cons {a : Nat} {l : List Nat} (h : l ≠ []) : mnL (a :: l) = min a (mnL l) := by
  cases l with
  | nil => exact absurd rfl h
  | cons b l => rfl
theorem mnL_append : ∀ {A B : List Nat}, A ≠ [] → B ≠ [] → mnL (A ++ B) = min (mnL A) (mnL B)
  | [], _, h, _ => absurd rfl h
  | [a], B, _, hB => by rw [List.singleton_append, mnL_cons hB]; rfl
  | a :: b :: A, B, _, hB => by
    have ih := mnL_append (A := b :: A) (B := B) (by simp) hB
    rw [List.cons_append, mnL_cons (l := b :: A ++ B) (by simp), ih, mnL_cons (l := b :: A) (by simp)]
    omega
theorem mxL_append : ∀ {A B : List Nat}, mxL (A ++ B) = max (mxL A) (mxL B)
  | [], B => by simp [mxL]
  | a :: A, B => by rw [List.cons_append, mxL, mxL, mxL_append]; omega
theorem mnL_mem : ∀ {L : List Nat}, L ≠ [] → mnL L ∈ L
  | [], h => absurd rfl h
  | [a], _ => by simp [mnL]
  | a :: b :: L, _ => by
    have ih := mnL_mem (L := b :: L) (by simp)
    rw [mnL]
    by_cases h : a ≤ mnL (b :: L)
    · rw [Nat.min_eq_left h]; simp
    · rw [Nat.min_eq_right (by omega)]; exact List.mem_cons_of_mem _ ih
theorem mnL_le : ∀ {L : List Nat} {n : Nat}, n ∈ L → mnL L ≤ n
  | [a], n, h => by simp [mnL] at *; omega
  | a :: b :: L, n, h => by
    rw [mnL]
    rcases List.mem_cons.1 h with rfl | h
    · omega
    · have := mnL_le (L := b :: L) h; omega
theorem mxL_mem : ∀ {L : List Nat}, L ≠ [] → mxL L ∈ L
  | [], h => absurd rfl h
  | [a], _ => by simp [mxL]
  | a :: b :: L, _ => by
    have ih := mxL_mem (L := b :: L) (by simp)
    rw [mxL]
    by_cases h : a ≤ mxL (b :: L)
    · rw [Nat.max_eq_right h]; exact List.mem_cons_of_mem _ ih
    · rw [Nat.max_eq_left (by omega)]; simp
theorem le_mxL : ∀ {L : List Nat} {n : Nat}, n ∈ L → n ≤ mxL L
  | a :: L, n, h => by
    rw [mxL]
    rcases List.mem_cons.1 h with rfl | h
    · omega
    · have := le_mxL h; omega
theorem ofL_perm {A B : List Nat} (h : A.Perm B) : ofL A = ofL B := by
  unfold ofL
  have e1 : mnL A = mnL B := by
    by_cases hA : A = []
    · subst hA; rw [List.Perm.eq_nil h.symm]
    · have hB : B ≠ [] := fun e => hA (by rw [e] at h; exact List.Perm.eq_nil h)
      exact Nat.le_antisymm (mnL_le (h.mem_iff.2 (mnL_mem hB))) (mnL_le (h.mem_iff.1 (mnL_mem hA)))
  have e2 : mxL A = mxL B := by
    by_cases hA : A = []
    · subst hA; rw [List.Perm.eq_nil h.symm]
    · have hB : B ≠ [] := fun e => hA (by rw [e] at h; exact List.Perm.eq_nil h)
      exact Nat.le_antisymm (le_mxL (h.mem_iff.1 (mxL_mem hA))) (le_mxL (h.mem_iff.2 (mxL_mem hB)))
  rw [e1, e2, h.length_eq, h.sum_nat]
  congr 1
  funext i
  rw [h.countP_eq]

theorem low_app {A B : List Nat} : Low (A ++ B) ↔ Low A ∧ Low B := by
  constructor
  · intro h; exact ⟨fun n hn => h n (by simp [hn]), fun n hn => h n (by simp [hn])⟩
  · rintro ⟨h1, h2⟩ n hn
    rcases List.mem_append.1 hn with h | h
    · exact h1 n h
    · exact h2 n h
theorem bk_top {L : List Nat} (h : Low L) {i : Nat} (hi : 42 ≤ i) : (ofL L).bk i = 0 := by
  show ((L.countP fun n => lenN n == i : Nat) : Int) = 0
  have : L.countP (fun n => lenN n == i) = 0 := List.countP_eq_zero.2 fun n hn => by
    have := lenN_le (h n hn)
    simp; omega
  rw [this]; rfl
theorem emp_ofL {L : List Nat} (h : Low L) : empB (ofL L) = L.isEmpty := by
  cases L with
  | nil => decide
  | cons a l =>
    have ha := lenN_le (h a (by simp))
    show empB _ = false
    unfold empB sameB
    rw [List.all_eq_false]
    refine ⟨lenN a, List.mem_range.2 (by omega), ?_⟩
    have : 0 < (a :: l).countP (fun n => lenN n == lenN a) := List.countP_pos_iff.2 ⟨a, by simp, by simp⟩
    show ¬ decide (((a :: l).countP (fun n => lenN n == lenN a) : Int) = 0) = true
    rw [decide_eq_true_eq]
    omega
theorem ok_ofL {L : List Nat} (h1 : L.length ≤ 1099511627776) (h2 : L.sum ≤ 4611686018427387904) : OkI (ofL L) :=
  ⟨fun i _ => by have : L.countP (fun n => lenN n == i) ≤ L.length := List.countP_le_length; show 0 ≤ ((L.countP fun n => lenN n == i : Nat) : Int) ∧ ((L.countP fun n => lenN n == i : Nat) : Int) ≤ _; omega,
    by show 0 ≤ (L.length : Int) ∧ (L.length : Int) ≤ _; omega, by show 0 ≤ (L.sum : Int) ∧ (L.sum : Int) ≤ _; omega⟩
theorem join_ofL {A B : List Nat} (hA : Low A) (hB : Low B) (hn : B ≠ []) : joinH (ofL A) (ofL B) = ofL (A ++ B) := by
  unfold joinH
  rw [emp_ofL hA]
  have e1 : (fun j => if j < 42 then (ofL A).bk j + (ofL B).bk j else (ofL A).bk j) = (ofL (A ++ B)).bk := by
    funext j
    have e : (ofL (A ++ B)).bk j = (ofL A).bk j + (ofL B).bk j := by
      show (((A ++ B).countP fun n => lenN n == j : Nat) : Int) = ((A.countP fun n => lenN n == j : Nat) : Int) + ((B.countP fun n => lenN n == j : Nat) : Int)
      rw [List.countP_append]; omega
    rw [e]
    split
    · rfl
    · rw [bk_top hB (by omega)]; omega
  rw [e1]
  have e2 : (ofL A).c + (ofL B).c = (ofL (A ++ B)).c := by simp [ofL]
  have e3 : (ofL A).s + (ofL B).s = (ofL (A ++ B)).s := by simp [ofL]
  have e4 : max (ofL A).h (ofL B).h = (ofL (A ++ B)).h := by simp only [ofL, mxL_append]; omega
  have e5 : min (if A.isEmpty = true then (ofL B).l else (ofL A).l) (ofL B).l = (ofL (A ++ B)).l := by
    cases A with
    | nil => simp [ofL]
    | cons a l => simp only [List.isEmpty_cons, Bool.false_eq_true, if_false, ofL, mnL_append (show a :: l ≠ [] by simp) hn]; omega
  rw [e2, e3, e4, e5]

def oneH (n t : Nat) : Hi := ⟨upd (fun _ => 0) (lenN n) t, t, ((n * t : Nat) : Int), n, n⟩
theorem one_ofL {n t : Nat} (ht : 0 < t) : oneH n t = ofL (List.replicate t n) := by
  unfold oneH ofL
  have e1 : upd (fun _ => 0) (lenN n) (t : Int) = fun i => (((List.replicate t n).countP fun n => lenN n == i : Nat) : Int) := by
    funext i
    unfold upd
    rw [List.countP_replicate]
    by_cases h : i = lenN n
    · subst h; simp
    · have : ¬ lenN n = i := fun e => h e.symm
      simp [h, this]
  have e2 : mnL (List.replicate t n) = n := by
    have := mnL_mem (L := List.replicate t n) (by intro h; have := congrArg List.length h; simp at this; omega)
    exact List.eq_of_mem_replicate this
  have e3 : mxL (List.replicate t n) = n := by
    have := mxL_mem (L := List.replicate t n) (by intro h; have := congrArg List.length h; simp at this; omega)
    exact List.eq_of_mem_replicate this
  rw [e1, e2, e3, List.length_replicate, List.sum_replicate_nat, Nat.mul_comm]

/-! ### counting -/
theorem bareK_congr {x y : Option Value} {H : AHeap} {k : Value → AHeap → Res} (h : x = y) : bareK x H k = bareK y H k := by rw [h]
theorem bothK_congr {x y : Option (Value × AHeap)} {k : Value → AHeap → Res} (h : x = y) : bothK x k = bothK y k := by rw [h]
section
attribute [local congr] bareK_congr bothK_congr
attribute [-go_sem] bldS

theorem q_Add (x : Hi) (b n t : Nat) (H : AHeap) (hf : H.f b = HB x) (hb : b < H.n) (ok : ∀ b, H.ver b < H.clk) (hx : OkI x) (hn : n ≤ 1099511627776) (ht : 0 < t) (ht2 : t ≤ 1099511627776) (hnt : n * t ≤ 4611686018427387904)
    (f1 : ¬ 1099511627776 - x.c < t) (f2 : ¬ 4611686018427387904 - x.s < ((n * t : Nat) : Int)) :
    ∃ H', CC F.stats_Histogram_Add [.pointer (some ⟨b, 0, none⟩), .int .i64 (n : Int), .int .i64 (t : Int)] H = some (.int .i64 0, H') ∧ H'.f b = HB (joinH x (oneH n t)) ∧ Fr (fun c => c = b) H H' ∧ H.clk ≤ H'.ver b := by
  have hl := lenN_le hn
  obtain ⟨H1, hH1⟩ : ∃ H1, H.push (HB zHi) = H1 := ⟨_, rfl⟩
  have s1 : Still H H1 := by rw [← hH1]; exact (Fr.refl H).push _
  have g1 : H1.f H.n = HB zHi := by rw [← hH1]; exact push_f_eq rfl
  have g1b : H1.f b = HB x := by rw [← hH1, push_f_ne (by omega)]; exact hf
  have hst := st_hv zHi ⟨fun _ => 0, t, ((n * t : Nat) : Int), n, n⟩ g1
  obtain ⟨H2, hH2⟩ : ∃ H2, H1.set H.n (HB ⟨fun _ => 0, t, ((n * t : Nat) : Int), n, n⟩) = H2 := ⟨_, rfl⟩
  rw [hH2] at hst
  have g2 : H2.f H.n = HB ⟨fun _ => 0, t, ((n * t : Nat) : Int), n, n⟩ := by rw [← hH2]; exact set_f_eq
  have g2b : H2.f b = HB x := by rw [← hH2, set_f_ne (by omega), g1b]
  have s2 : Still H H2 := by rw [← hH2]; exact Fr.set s1 _ _ fun h => by omega
  obtain ⟨H3, hH3⟩ : ∃ H3, H2.set H.n (HB (oneH n t)) = H3 := ⟨_, rfl⟩
  have g3 : H3.f H.n = HB (oneH n t) := by rw [← hH3]; exact set_f_eq
  have g3b : H3.f b = HB x := by rw [← hH3, set_f_ne (by omega), g2b]
  have s3 : Still H H3 := by rw [← hH3]; exact Fr.set s2 _ _ fun h => by omega
  have hp : newv T.stats_Histogram (.agg #[(.int .i64 0), (.int .i64 0), (.int .i64 0), (.int .i64 0), (.int .i64 0), (.int .i64 0), (.int .i64 0), (.int .i64 0), (.int .i64 0), (.int .i64 0), (.int .i64 0), (.int .i64 0), (.int .i64 0), (.int .i64 0), (.int .i64 0), (.int .i64 0), (.int .i64 0), (.int .i64 0), (.int .i64 0), (.int .i64 0), (.int .i64 0), (.int .i64 0), (.int .i64 0), (.int .i64 0), (.int .i64 0), (.int .i64 0), (.int .i64 0), (.int .i64 0), (.int .i64 0), (.int .i64 0), (.int .i64 0), (.int .i64 0), (.int .i64 0), (.int .i64 0), (.int .i64 0), (.int .i64 0), (.int .i64 0), (.int .i64 0), (.int .i64 0), (.int .i64 0), (.int .i64 0), (.int .i64 0), (.int .i64 0), (.int .i64 0), (.int .i64 0), (.int .i64 0)]) H = some (.pointer (some ⟨H.n, 0, none⟩), H1) := by rw [← hH1]; rfl
  have hone : OkI (oneH n t) := ⟨fun i _ => by simp only [oneH, upd]; split <;> omega, by simp only [oneH]; omega, by simp only [oneH]; omega⟩
  have hemp : empB (oneH n t) = false := by
    unfold empB sameB
    rw [List.all_eq_false]
    refine ⟨lenN n, List.mem_range.2 (by omega), ?_⟩
    simp only [oneH, upd, zHi, decide_eq_true_eq, if_true]
    omega
  obtain ⟨H4, hj, g4, fr4, v4⟩ := q_join x (oneH n t) b H3 g3b (Nat.lt_of_lt_of_le hb s3.n) (s3.ok ok) hx hone f1 f2 hemp
  have hseti := hv_seti ⟨fun _ => 0, t, ((n * t : Nat) : Int), n, n⟩ (show lenN n < 42 by omega) t
  have hlt : (0 : Int) ≤ (lenN n : Int) ∧ (lenN n : Int) < (42 : Nat) := by omega
  have hbu := q_Bucket n hn H
  have h1 : ¬ (t : Int) < 0 := by omega
  have h2 : ¬ (1099511627776 : Int) < (t : Int) := by omega
  have h3 : ¬ (t : Int) = 0 := by omega
  have hm : ∀ ox oy, xbin Try.prog .mul T.int ox oy (.int .i64 (n : Int)) (.int .i64 (t : Int)) = some (.int .i64 ((n * t : Nat) : Int)) := fun ox oy => mulN (by omega)
  have fr : Fr (fun c => c = b) H H4 := s3.still.trans fr4
  have hld : cutB (HB (oneH n t)) 0 46 = some (hv (oneH n t)) := rfl
  have hbl := bld_hv (t : Int) ((n * t : Nat) : Int) (n : Int) (n : Int)
  have hH3' : H2.set H.n (.cells (hv ⟨upd (fun _ => 0) (lenN n) (t : Int), (t : Int), ((n * t : Nat) : Int), (n : Int), (n : Int)⟩) T.stats_Histogram true) = H3 := hH3
  obtain ⟨nt, hnt'⟩ : ∃ nt : Int, ((n * t : Nat) : Int) = nt := ⟨_, rfl⟩
  have hjj := hj
  refine ⟨H4, (d_stats_Histogram_Add _ _ _ H (r := (.int .i64 0, H4)) ?_).trans (congrArg some (tidy_turned hb (ok b) (Nat.le_trans s3.clk v4))), g4, fr, Nat.le_trans s3.clk v4⟩
  by_cases hn0 : n = 0
  · have h4 : ¬ (0 : Int) < (n : Int) := by omega
    simp (disch := first | with_reducible rfl | assumption | omega | rfl | (simp only [go_sem]; first | done | omega)) only [go_sem, ↓reduceIte, reduceCtorEq, Nat.reduceEqDiff, Nat.reduceAdd, Nat.reduceSub, Nat.reduceMul, Nat.reduceDiv, Nat.reduceMod, Nat.reduceLeDiff, Nat.reduceLT, Nat.reduceBEq, Int.reduceEq, Int.reduceBEq, Int.reduceBNe, Int.reduceLT, Int.reduceLE, Int.reduceAdd, Int.reduceSub, Int.reduceNeg, Int.reduceToNat, Int.reducePow, Nat.reducePow, Int.reduceMul, Int.reduceDiv, ↓s_stats_Histogram_Add, ↓enterK_eq hbu, enterK_eq hbu, h1, h2, h3, h4, ↓hm, hm, ↓hbl, hbl, ↓hp, hp, ↓hst, hst, g2, hlt, hseti, hH3', g3, hld, ↓enterK_eq hj, enterK_eq hj, Int.toNat_natCast, Nat.zero_add, Nat.mul_one]
  · have h4 : (0 : Int) < (n : Int) := by omega
    have hq : ∀ ox oy, xbin Try.prog .quo T.int ox oy (.int .i64 4611686018427387904) (.int .i64 (n : Int)) = some (.int .i64 (4611686018427387904 / (n : Int))) := fun ox oy => quoI (by decide) h4 (by decide)
    have h5 : ¬ (4611686018427387904 : Int) / (n : Int) < (t : Int) := by
      have : (t : Int) ≤ 4611686018427387904 / (n : Int) := (Int.le_ediv_iff_mul_le h4).2 (by rw [Int.mul_comm]; omega)
      omega
    simp (disch := first | with_reducible rfl | assumption | omega | rfl | (simp only [go_sem]; first | done | omega)) only [go_sem, ↓reduceIte, reduceCtorEq, Nat.reduceEqDiff, Nat.reduceAdd, Nat.reduceSub, Nat.reduceMul, Nat.reduceDiv, Nat.reduceMod, Nat.reduceLeDiff, Nat.reduceLT, Nat.reduceBEq, Int.reduceEq, Int.reduceBEq, Int.reduceBNe, Int.reduceLT, Int.reduceLE, Int.reduceAdd, Int.reduceSub, Int.reduceNeg, Int.reduceToNat, Int.reducePow, Nat.reducePow, Int.reduceMul, Int.reduceDiv, ↓s_stats_Histogram_Add, ↓enterK_eq hbu, enterK_eq hbu, h1, h2, h3, h4, ↓hq, hq, decide_eq_false h5, ↓hm, hm, ↓hbl, hbl, ↓hp, hp, ↓hst, hst, g2, hlt, hseti, hH3', g3, hld, ↓enterK_eq hj, enterK_eq hj, Int.toNat_natCast, Nat.zero_add, Nat.mul_one]

end

theorem q_Add_zero (b : Nat) (n : Nat) (H : AHeap) (hn : n ≤ 1099511627776) : CC F.stats_Histogram_Add [.pointer (some ⟨b, 0, none⟩), .int .i64 (n : Int), .int .i64 0] H = some (.int .i64 0, H) := by
  have hbu := q_Bucket n hn H
  apply pure_of _ (d_stats_Histogram_Add _ _ _ H) rfl
  rotate_left 2
  · simp (disch := first | with_reducible rfl | assumption | omega | rfl | (simp only [go_sem]; first | done | omega)) only [go_sem, ↓reduceIte, reduceCtorEq, Nat.reduceEqDiff, Nat.reduceAdd, Nat.reduceSub, Nat.reduceMul, Nat.reduceDiv, Nat.reduceMod, Nat.reduceLeDiff, Nat.reduceLT, Nat.reduceBEq, Int.reduceEq, Int.reduceBEq, Int.reduceBNe, Int.reduceLT, Int.reduceLE, Int.reduceAdd, Int.reduceSub, Int.reduceNeg, Int.reduceToNat, Int.reducePow, Nat.reducePow, Int.reduceMul, Int.reduceDiv, ↓s_stats_Histogram_Add, ↓enterK_eq hbu, enterK_eq hbu]
    rfl
  · (repeat (first | exact Fr.refl _ | refine Fr.push ?_ _ | refine Fr.set ?_ _ _ (by intro h; first | omega | (simp only [go_sem] at h; omega))))

/-- Counting, as lists. -/
theorem q_lAdd (L : List Nat) (b n t : Nat) (H : AHeap) (hf : H.f b = HB (ofL L)) (hb : b < H.n) (ok : ∀ b, H.ver b < H.clk) (hL : Low L) (hn : n ≤ 1099511627776) (h1 : L.length + t ≤ 1099511627776) (h2 : L.sum + n * t ≤ 4611686018427387904) :
    ∃ H', CC F.stats_Histogram_Add [.pointer (some ⟨b, 0, none⟩), .int .i64 (n : Int), .int .i64 (t : Int)] H = some (.int .i64 0, H') ∧ H'.f b = HB (ofL (L ++ List.replicate t n)) ∧ Fr (fun c => c = b) H H' := by
  by_cases ht : t = 0
  · subst ht
    exact ⟨H, q_Add_zero b n H hn, by simpa using hf, Fr.refl H⟩
  · have hr : List.replicate t n ≠ [] := by intro h; have := congrArg List.length h; simp at this; omega
    obtain ⟨H', hc, hf', fr, _⟩ := q_Add (ofL L) b n t H hf hb ok (ok_ofL (by omega) (by omega)) hn (by omega) (by omega) (by omega) (by show ¬ 1099511627776 - (L.length : Int) < t; omega) (by show ¬ 4611686018427387904 - (L.sum : Int) < _; omega)
    refine ⟨H', hc, ?_, fr⟩
    rw [hf', one_ofL (by omega), join_ofL hL (fun m hm => by rw [List.eq_of_mem_replicate hm]; exact hn) hr]

theorem q_lMerge (A B : List Nat) (a b : Nat) (H : AHeap) (ha : H.f a = HB (ofL A)) (hb : H.f b = HB (ofL B)) (han : a < H.n) (ok : ∀ b, H.ver b < H.clk) (hA : Low A) (hB : Low B) (h1 : A.length + B.length ≤ 1099511627776) (h2 : A.sum + B.sum ≤ 4611686018427387904) :
    ∃ H', CC F.stats_Histogram_Merge [.pointer (some ⟨a, 0, none⟩), .pointer (some ⟨b, 0, none⟩)] H = some (.int .i64 0, H') ∧ H'.f a = HB (ofL (A ++ B)) ∧ Fr (fun c => c = a) H H' := by
  have hld : cutB (HB (ofL B)) 0 46 = some (hv (ofL B)) := rfl
  have oA := ok_ofL (L := A) (by omega) (by omega)
  have oB := ok_ofL (L := B) (by omega) (by omega)
  have f1 : ¬ 1099511627776 - (ofL A).c < (ofL B).c := by show ¬ 1099511627776 - (A.length : Int) < (B.length : Int); omega
  have f2 : ¬ 4611686018427387904 - (ofL A).s < (ofL B).s := by show ¬ 4611686018427387904 - (A.sum : Int) < (B.sum : Int); omega
  by_cases hn : B = []
  · subst hn
    have hj := q_join_empty (ofL A) (ofL []) a H ha han oA oB f1 f2 (emp_ofL hB)
    refine ⟨H, ?_, by simpa using ha, Fr.refl H⟩
    apply pure_of _ (d_stats_Histogram_Merge _ _ H) rfl
    rotate_left 2
    · simp (disch := first | with_reducible rfl | assumption | omega | rfl | (simp only [go_sem]; first | done | omega)) only [go_sem, ↓reduceIte, reduceCtorEq, Nat.reduceEqDiff, Nat.reduceAdd, Nat.reduceSub, Nat.reduceMul, Nat.reduceDiv, Nat.reduceMod, Nat.reduceLeDiff, Nat.reduceLT, Nat.reduceBEq, Int.reduceEq, Int.reduceBEq, Int.reduceBNe, Int.reduceLT, Int.reduceLE, Int.reduceAdd, Int.reduceSub, Int.reduceNeg, Int.reduceToNat, Int.reducePow, Nat.reducePow, Int.reduceMul, Int.reduceDiv, ↓s_stats_Histogram_Merge, hb, hld, ↓enterK_eq hj, enterK_eq hj]
      rfl
    · (repeat (first | exact Fr.refl _ | refine Fr.push ?_ _ | refine Fr.set ?_ _ _ (by intro h; first | omega | (simp only [go_sem] at h; omega))))
  · have he : empB (ofL B) = false := by rw [emp_ofL hB]; cases B with | nil => exact absurd rfl hn | cons _ _ => rfl
    obtain ⟨H', hj, hf', fr, hv'⟩ := q_join (ofL A) (ofL B) a H ha han ok oA oB f1 f2 he
    refine ⟨H', (d_stats_Histogram_Merge _ _ H (r := (.int .i64 0, H')) ?_).trans (congrArg some (tidy_turned han (ok a) hv')), by rw [hf', join_ofL hA hB hn], fr⟩
    simp (disch := first | with_reducible rfl | assumption | omega | rfl | (simp only [go_sem]; first | done | omega)) only [go_sem, ↓reduceIte, reduceCtorEq, Nat.reduceEqDiff, Nat.reduceAdd, Nat.reduceSub, Nat.reduceMul, Nat.reduceDiv, Nat.reduceMod, Nat.reduceLeDiff, Nat.reduceLT, Nat.reduceBEq, Int.reduceEq, Int.reduceBEq, Int.reduceBNe, Int.reduceLT, Int.reduceLE, Int.reduceAdd, Int.reduceSub, Int.reduceNeg, Int.reduceToNat, Int.reducePow, Nat.reducePow, Int.reduceMul, Int.reduceDiv, ↓s_stats_Histogram_Merge, hb, hld, ↓enterK_eq hj, enterK_eq hj]

end Go.Proofs.Ytplblfcofplcmaa

/-
  Chapter 26: plain laws of histograms as lists: means, sums, quantiles.
  Conditions: none. By an AI agent.
-/
set_option maxRecDepth 10000
set_option linter.unusedSimpArgs false
set_option linter.unusedVariables false
namespace Go.Proofs.Ytplblfcofplcmaa
open Go Eng

theorem low_sum : ∀ {L : List Nat}, Low L → L.sum ≤ L.length * 1099511627776
  | [], _ => by simp
  | a :: L, h => by
    have := h a (by simp)
    have := low_sum (L := L) fun n hn => h n (by simp [hn])
    rw [List.sum_cons, List.length_cons]
    omega
theorem mn_sum : ∀ {L : List Nat} {m : Nat}, (∀ n ∈ L, m ≤ n) → m * L.length ≤ L.sum
  | [], _, _ => by simp
  | a :: L, m, h => by
    have h1 := h a (by simp)
    have h2 := mn_sum (L := L) (m := m) fun n hn => h n (by simp [hn])
    rw [List.sum_cons, List.length_cons, Nat.mul_succ]
    omega
theorem mx_sum : ∀ {L : List Nat} {m : Nat}, (∀ n ∈ L, n ≤ m) → L.sum ≤ m * L.length
  | [], _, _ => by simp
  | a :: L, m, h => by
    have h1 := h a (by simp)
    have h2 := mx_sum (L := L) (m := m) fun n hn => h n (by simp [hn])
    rw [List.sum_cons, List.length_cons, Nat.mul_succ]
    omega
theorem mean_ok {L : List Nat} (h : L ≠ []) : (ofL L).l ≤ (ofL L).s / (ofL L).c ∧ (ofL L).s / (ofL L).c ≤ (ofL L).h := by
  have hp : 0 < L.length := List.length_pos_iff.2 h
  have h1 := mn_sum (L := L) (m := mnL L) fun n hn => mnL_le hn
  have h2 := mx_sum (L := L) (m := mxL L) fun n hn => le_mxL hn
  show ((mnL L : Nat) : Int) ≤ ((L.sum : Nat) : Int) / ((L.length : Nat) : Int) ∧ ((L.sum : Nat) : Int) / ((L.length : Nat) : Int) ≤ ((mxL L : Nat) : Int)
  rw [← Int.natCast_ediv]
  have a1 := (Nat.le_div_iff_mul_le hp).2 h1
  have a2 : L.sum / L.length ≤ mxL L := Nat.div_le_of_le_mul (by rw [Nat.mul_comm]; exact h2)
  omega

/-! ### the sum of the buckets -/
def sumB (f : Nat → Int) : Nat → Int
  | 0 => 0
  | d + 1 => sumB f d + f d
theorem sumB_add (f g : Nat → Int) : ∀ d, sumB (fun i => f i + g i) d = sumB f d + sumB g d
  | 0 => rfl
  | d + 1 => by simp only [sumB, sumB_add f g d]; omega
theorem sumB_ind (m : Nat) : ∀ d, sumB (fun i => if m = i then 1 else 0) d = if m < d then 1 else 0
  | 0 => rfl
  | d + 1 => by
    simp only [sumB, sumB_ind m d]
    by_cases h1 : m < d
    · rw [if_pos h1, if_neg (by omega), if_pos (by omega)]; rfl
    · rw [if_neg h1]
      by_cases h2 : m = d
      · rw [if_pos h2, if_pos (by omega)]; rfl
      · rw [if_neg h2, if_neg (by omega)]; rfl
theorem sumB_zero : ∀ d, sumB (fun _ => 0) d = 0
  | 0 => rfl
  | d + 1 => by simp only [sumB, sumB_zero d]; rfl
theorem sumB_ofL : ∀ {L : List Nat}, Low L → sumB (ofL L).bk 42 = (L.length : Int)
  | [], _ => sumB_zero 42
  | a :: L, h => by
    have ih := sumB_ofL (L := L) fun n hn => h n (by simp [hn])
    have ha := lenN_le (h a (by simp))
    have e : (ofL (a :: L)).bk = fun i => (ofL L).bk i + (if lenN a = i then 1 else 0) := by
      funext i
      show (((a :: L).countP fun n => lenN n == i : Nat) : Int) = ((L.countP fun n => lenN n == i : Nat) : Int) + _
      rw [List.countP_cons]
      by_cases hi : lenN a = i
      · simp [hi]
      · simp [hi]
    rw [e, sumB_add, ih, sumB_ind, if_pos (by omega), List.length_cons]
    omega
theorem sumB_le {f : Nat → Int} {M : Int} (h : ∀ i, i < 42 → 0 ≤ f i ∧ f i ≤ M) : ∀ d, d ≤ 42 → 0 ≤ sumB f d ∧ sumB f d ≤ d * M
  | 0, _ => by simp [sumB]
  | d + 1, hd => by
    have ih := sumB_le h d (by omega)
    have := h d (by omega)
    simp only [sumB]
    rw [Int.natCast_add, Int.add_mul]
    omega

/-! ### quantiles -/
theorem hi_mono {i j : Nat} (h : i ≤ j) : hiN i ≤ hiN j := by
  unfold hiN
  by_cases h0 : i = 0
  · rw [if_pos h0]; omega
  · rw [if_neg h0, if_neg (by omega)]
    have := Nat.pow_le_pow_right (n := 2) (by decide) h
    omega
theorem qt_le (x : Hi) (p : Int) : ∀ d i r, qtL x p d i r ≤ x.h
  | 0, _, _ => Int.le_refl _
  | d + 1, i, r => by
    rw [qtL]
    split
    · omega
    · exact qt_le x p d _ _
theorem qt_ge (x : Hi) (p : Int) (k : Nat) : ∀ d i r, k ≤ i → min (hiN k : Int) x.h ≤ qtL x p d i r
  | 0, _, _, _ => by rw [qtL]; omega
  | d + 1, i, r, h => by
    rw [qtL]
    have := hi_mono h
    split
    · omega
    · exact qt_ge x p k d _ _ (by omega)
theorem qt_mono (x : Hi) (hc : 0 ≤ x.c) {p q : Int} (h : p ≤ q) : ∀ d i r, qtL x p d i r ≤ qtL x q d i r
  | 0, _, _ => Int.le_refl _
  | d + 1, i, r => by
    have hm : p * x.c ≤ q * x.c := Int.mul_le_mul_of_nonneg_right h hc
    rw [qtL, qtL]
    by_cases h1 : 0 < x.bk i ∧ q * x.c ≤ 1000 * (r + x.bk i)
    · rw [if_pos h1, if_pos ⟨h1.1, by omega⟩]; omega
    · rw [if_neg h1]
      by_cases h2 : 0 < x.bk i ∧ p * x.c ≤ 1000 * (r + x.bk i)
      · rw [if_pos h2]
        exact qt_ge x q i d _ _ (by omega)
      · rw [if_neg h2]
        exact qt_mono x hc h d _ _
theorem qt_pos (x : Hi) (hh : 0 ≤ x.h) (p : Int) : ∀ d i r, 0 ≤ qtL x p d i r
  | 0, _, _ => hh
  | d + 1, i, r => by
    rw [qtL]
    split
    · omega
    · exact qt_pos x hh p d _ _
theorem lenN_mono {a b : Nat} (h : a ≤ b) : lenN a ≤ lenN b := by
  by_cases ha : a = 0
  · subst ha; exact Nat.zero_le _
  · obtain ⟨c, e, h1, h2⟩ := lenN_spec ha
    obtain ⟨c', e', h1', h2'⟩ := lenN_spec (x := b) (by omega)
    rw [e, e']
    by_cases hc : c ≤ c'
    · omega
    · exfalso
      have := Nat.pow_le_pow_right (n := 2) (by decide) (show c' + 1 ≤ c by omega)
      omega
def below (L : List Nat) (i : Nat) : Nat := L.countP fun n => decide (lenN n < i)
theorem below_succ (L : List Nat) (i : Nat) : below L (i + 1) = below L i + L.countP fun n => lenN n == i := by
  unfold below
  induction L with
  | nil => rfl
  | cons a L ih =>
    simp only [List.countP_cons, ih]
    by_cases h1 : lenN a < i
    · have : ¬ lenN a = i := by omega
      simp [h1, this, show lenN a < i + 1 by omega]; omega
    · by_cases h2 : lenN a = i
      · simp [h2]; omega
      · simp [h1, h2, show ¬ lenN a < i + 1 by omega]
theorem qt_top {L : List Nat} (hL : Low L) (hn : L ≠ []) : ∀ d i, qtL (ofL L) 1000 d i (below L i) = (ofL L).h
  | 0, _ => rfl
  | d + 1, i => by
    rw [qtL]
    have e : ((below L i : Nat) : Int) + (ofL L).bk i = ((below L (i + 1) : Nat) : Int) := by rw [below_succ]; rfl
    rw [e]
    split
    · rename_i h
      have hc : L.length ≤ below L (i + 1) := by
        have : (1000 : Int) * (L.length : Int) ≤ 1000 * ((below L (i + 1) : Nat) : Int) := h.2
        omega
      have hall : ∀ n ∈ L, lenN n < i + 1 := fun n hn => by
        have := List.countP_eq_length.1 (Nat.le_antisymm List.countP_le_length hc) n hn
        simpa using this
      have hm := hall _ (mxL_mem hn)
      have hlow := hL _ (mxL_mem hn)
      have h1 := ((in_bucket hlow (lenN_le hlow)).2 rfl).2
      have h2 := hi_mono (show lenN (mxL L) ≤ i by omega)
      show min ((hiN i : Nat) : Int) ((mxL L : Nat) : Int) = ((mxL L : Nat) : Int)
      omega
    · exact qt_top hL hn d (i + 1)

/-! ### lists in turn -/
theorem flat_succ (f : Nat → List Nat) (k : Nat) : (List.range (k + 1)).flatMap f = (List.range k).flatMap f ++ f k := by
  rw [List.range_succ, List.flatMap_append]; simp
theorem flat_len {f : Nat → List Nat} (h : ∀ i, (f i).length ≤ 5) : ∀ k, ((List.range k).flatMap f).length ≤ 5 * k
  | 0 => by simp
  | k + 1 => by
    rw [flat_succ, List.length_append]
    have := flat_len h k
    have := h k
    omega
theorem flat_low {f : Nat → List Nat} (h : ∀ i, Low (f i)) (k : Nat) : Low ((List.range k).flatMap f) := by
  intro n hn
  obtain ⟨i, _, hi⟩ := List.mem_flatMap.1 hn
  exact h i n hi
theorem part_perm (f : Nat → List Nat) (p : Nat) : ∀ k, ((List.range k).flatMap (fun i => if i < p then f i else []) ++ (List.range k).flatMap (fun i => if i < p then [] else f i)).Perm ((List.range k).flatMap f)
  | 0 => .refl _
  | k + 1 => by
    have ih := part_perm f p k
    rw [flat_succ, flat_succ, flat_succ]
    rw [List.perm_iff_count] at ih ⊢
    intro a
    have := ih a
    simp only [List.count_append] at this ⊢
    by_cases h : k < p
    · simp only [h, if_true, List.count_nil]; omega
    · simp only [h, if_false, List.count_nil]; omega
theorem rot_mod {i t n : Nat} (hi : i < n) (ht : t < n) : (i + t) % n = if i + t < n then i + t else i + t - n := by
  split
  · rename_i h; exact Nat.mod_eq_of_lt h
  · rename_i h
    rw [Nat.mod_eq_sub_mod (by omega), Nat.mod_eq_of_lt (by omega)]
theorem turn_perm (f : Nat → List Nat) (t n : Nat) : ((List.range n).flatMap fun i => f ((i + t) % n)).Perm ((List.range n).flatMap f) := by
  by_cases hn : n = 0
  · subst hn; exact .refl _
  have ht : t % n < n := Nat.mod_lt _ (by omega)
  have e : ∀ i, i < n → (i + t) % n = if i + t % n < n then i + t % n else i + t % n - n := fun i hi => by
    rw [← Nat.add_mod_mod, rot_mod hi ht]
  have hp : ((List.range n).map fun i => (i + t) % n).Perm (List.range n) := by
    refine (List.perm_ext_iff_of_nodup ?_ List.nodup_range).2 fun j => ?_
    · rw [List.Nodup, List.pairwise_map]
      refine (List.nodup_range (n := n)).imp_of_mem fun {a b} ha hb hab => ?_
      have ha := List.mem_range.1 ha
      have hb := List.mem_range.1 hb
      rw [e a ha, e b hb]
      split <;> split <;> omega
    · constructor
      · intro h
        obtain ⟨i, hi, rfl⟩ := List.mem_map.1 h
        exact List.mem_range.2 (Nat.mod_lt _ (by omega))
      · intro h
        have hj := List.mem_range.1 h
        refine List.mem_map.2 ⟨if t % n ≤ j then j - t % n else j + n - t % n, List.mem_range.2 (by split <;> omega), ?_⟩
        rw [e _ (by split <;> omega)]
        split <;> split <;> omega
  have := hp.flatMap_right f
  rwa [List.flatMap_map] at this

end Go.Proofs.Ytplblfcofplcmaa

/-
  The seat's functions as terms over the engine's combinators (a program of ours printed it).
  Conditions: none. By an AI agent.
-/
set_option linter.unusedVariables false
namespace Go.Proofs.Ytplblfcofplcmaa
open Go Eng

/-! ticketline.ticketlinelaw26.StatsHolds -/

noncomputable def s_law_StatsHolds (mg : GT) (mc : CT) (ms : ST) (P : Program) (C : CallF) (L0 : Value → Value → Value → Value → Value → Value → Value → Value → Value → AHeap → K → Res) (L1 : Value → Value → Value → Value → Value → Value → Value → Value → Value → Value → Value → Value → Value → AHeap → K → Res) (L2 : Value → Value → Value → Value → AHeap → K → Res) (L3 : Value → Value → Value → Value → AHeap → K → Res) (a0 : Value) (a1 : Value) (a2 : Value) (a3 : Value) (H : AHeap) (K0 : K) : Res :=
bareK (lenS a0) H fun t33 h1 =>
bareK (xbin P .gtr T.int (.tmp 33) (.const (.int .i64 40)) t33 (.int .i64 40)) h1 fun t34 h2 =>
mg t34 false (fun o1 => o1 a1 h2) h2 fun t36 h3 =>
mg t34 false (fun o2 => bareK (lenS t36) h3 o2) h3 fun t37 h4 =>
mg t34 false (fun o3 => o3 a0 h4) h4 fun t38 h5 =>
mg t34 false (fun o4 => bareK (lenS t38) h5 o4) h5 fun t39 h6 =>
mg t34 false (fun o5 => bareK (xbin P .lss T.int (.tmp 37) (.tmp 39) t37 t39) h6 o5) h6 fun t40 h7 =>
pickK t34 (.bool true) t40 fun t41 =>
mc t41 (fun k6 => enterK C F.law_known [] h7 fun t42 h8 =>
k6 .ret [(8, t42)] h8) (fun k6 =>
k6 .normal [(0, a0), (1, a1), (2, a2), (3, a3)] h7) (seqK (fun tT h9 =>
bareK (bldS #[(.int .i64 0), (.int .i64 0), (.int .i64 0), (.int .i64 0), (.int .i64 0), (.int .i64 0), (.int .i64 0), (.int .i64 0), (.int .i64 0), (.int .i64 0), (.int .i64 0), (.int .i64 0), (.int .i64 0), (.int .i64 0), (.int .i64 0), (.int .i64 0), (.int .i64 0), (.int .i64 0), (.int .i64 0), (.int .i64 0), (.int .i64 0), (.int .i64 0), (.int .i64 0), (.int .i64 0), (.int .i64 0), (.int .i64 0), (.int .i64 0), (.int .i64 0), (.int .i64 0), (.int .i64 0), (.int .i64 0), (.int .i64 0), (.int .i64 0), (.int .i64 0), (.int .i64 0), (.int .i64 0), (.int .i64 0), (.int .i64 0), (.int .i64 0), (.int .i64 0), (.int .i64 0), (.int .i64 0), (.int .i64 0), (.int .i64 0), (.int .i64 0), (.int .i64 0)] [(0, 42), (42, 1), (43, 1), (44, 1), (45, 1)] []) h9 fun t43 h10 =>
bothK (newv T.stats_Histogram t43 h10) fun t44 h11 =>
bareK (bldS #[(.int .i64 0), (.int .i64 0), (.int .i64 0), (.int .i64 0), (.int .i64 0), (.int .i64 0), (.int .i64 0), (.int .i64 0), (.int .i64 0), (.int .i64 0), (.int .i64 0), (.int .i64 0), (.int .i64 0), (.int .i64 0), (.int .i64 0), (.int .i64 0), (.int .i64 0), (.int .i64 0), (.int .i64 0), (.int .i64 0), (.int .i64 0), (.int .i64 0), (.int .i64 0), (.int .i64 0), (.int .i64 0), (.int .i64 0), (.int .i64 0), (.int .i64 0), (.int .i64 0), (.int .i64 0), (.int .i64 0), (.int .i64 0), (.int .i64 0), (.int .i64 0), (.int .i64 0), (.int .i64 0), (.int .i64 0), (.int .i64 0), (.int .i64 0), (.int .i64 0), (.int .i64 0), (.int .i64 0), (.int .i64 0), (.int .i64 0), (.int .i64 0), (.int .i64 0)] [(0, 42), (42, 1), (43, 1), (44, 1), (45, 1)] []) h11 fun t45 h12 =>
bothK (newv T.stats_Histogram t45 h12) fun t46 h13 =>
bareK (bldS #[(.int .i64 0), (.int .i64 0), (.int .i64 0), (.int .i64 0), (.int .i64 0), (.int .i64 0), (.int .i64 0), (.int .i64 0), (.int .i64 0), (.int .i64 0), (.int .i64 0), (.int .i64 0), (.int .i64 0), (.int .i64 0), (.int .i64 0), (.int .i64 0), (.int .i64 0), (.int .i64 0), (.int .i64 0), (.int .i64 0), (.int .i64 0), (.int .i64 0), (.int .i64 0), (.int .i64 0), (.int .i64 0), (.int .i64 0), (.int .i64 0), (.int .i64 0), (.int .i64 0), (.int .i64 0), (.int .i64 0), (.int .i64 0), (.int .i64 0), (.int .i64 0), (.int .i64 0), (.int .i64 0), (.int .i64 0), (.int .i64 0), (.int .i64 0), (.int .i64 0), (.int .i64 0), (.int .i64 0), (.int .i64 0), (.int .i64 0), (.int .i64 0), (.int .i64 0)] [(0, 42), (42, 1), (43, 1), (44, 1), (45, 1)] []) h13 fun t47 h14 =>
bothK (newv T.stats_Histogram t47 h14) fun t48 h15 =>
bareK (bldS #[(.int .i64 0), (.int .i64 0), (.int .i64 0), (.int .i64 0), (.int .i64 0), (.int .i64 0), (.int .i64 0), (.int .i64 0), (.int .i64 0), (.int .i64 0), (.int .i64 0), (.int .i64 0), (.int .i64 0), (.int .i64 0), (.int .i64 0), (.int .i64 0), (.int .i64 0), (.int .i64 0), (.int .i64 0), (.int .i64 0), (.int .i64 0), (.int .i64 0), (.int .i64 0), (.int .i64 0), (.int .i64 0), (.int .i64 0), (.int .i64 0), (.int .i64 0), (.int .i64 0), (.int .i64 0), (.int .i64 0), (.int .i64 0), (.int .i64 0), (.int .i64 0), (.int .i64 0), (.int .i64 0), (.int .i64 0), (.int .i64 0), (.int .i64 0), (.int .i64 0), (.int .i64 0), (.int .i64 0), (.int .i64 0), (.int .i64 0), (.int .i64 0), (.int .i64 0)] [(0, 42), (42, 1), (43, 1), (44, 1), (45, 1)] []) h15 fun t49 h16 =>
bothK (newv T.stats_Histogram t49 h16) fun t50 h17 =>
ms (fun k7 =>
L0 (get tT 0) (get tT 1) (get tT 2) (get tT 3) t44 t46 t48 t50 (.int .i64 0) h17 (blkK [9, 10, 11, 12] 0 k7)) (seqK (fun tT_1 h18 =>
enterK C F.stats_Histogram_Merge [(get tT_1 11), (get tT_1 12)] h18 fun t113 h19 =>
bareK (xbin P .neq T.api_Errno (.tmp 113) (.const (.int .i64 0)) t113 (.int .i64 0)) h19 fun t114 h20 =>
mg t114 false (fun o8 => o8 (get tT_1 9) h20) h20 fun t116 h21 =>
mg t114 false (fun o9 => o9 (get tT_1 10) h21) h21 fun t117 h22 =>
mg t114 false (fun o10 => enterK C F.law_same [t116, t117] h22 o10) h22 fun t118 h23 =>
mg t114 false (fun o11 => bareK (xun P .not t118) h23 o11) h23 fun t119 h24 =>
pickK t114 (.bool true) t119 fun t120 =>
mg t120 false (fun o12 => o12 (get tT_1 9) h24) h24 fun t122 h25 =>
mg t120 false (fun o13 => o13 (get tT_1 11) h25) h25 fun t123 h26 =>
mg t120 false (fun o14 => enterK C F.law_same [t122, t123] h26 o14) h26 fun t124 h27 =>
mg t120 false (fun o15 => bareK (xun P .not t124) h27 o15) h27 fun t125 h28 =>
pickK t120 (.bool true) t125 fun t126 =>
mc t126 (fun k16 => k16 .ret [(8, (.bool false))] h28) (fun k16 =>
k16 .normal [(9, (get tT_1 9))] h28) (seqK (fun tT_2 h29 =>
enterK C F.stats_Histogram_Buckets [(get tT_2 9)] h29 fun t128 h30 =>
ms (fun k17 =>
L2 (get tT_2 9) (.int .i64 0) t128 (.int .i64 0) h30 (blkK [9, 19] 4 k17)) (seqK (fun tT_3 h31 =>
enterK C F.stats_Histogram_Count [(get tT_3 9)] h31 fun t138 h32 =>
bareK (xbin P .neq T.int (.tmp 136) (.tmp 138) (get tT_3 19) t138) h32 fun t139 h33 =>
mc t139 (fun k18 => k18 .ret [(8, (.bool false))] h33) (fun k18 =>
k18 .normal [(9, (get tT_3 9)), (19, (get tT_3 19))] h33) (seqK (fun tT_4 h34 =>
bareK (xbin P .eql T.int (.tmp 140) (.const (.int .i64 0)) (get tT_4 19) (.int .i64 0)) h34 fun t141 h35 =>
mc t141 (fun k19 => enterK C F.law_ends [(get tT_4 9), (.int .i64 0), (.int .i64 0), (.int .i64 0), (.int .i64 9)] h35 fun t143 h36 =>
mg t143 true (fun o20 => enterK C F.law_known [] h36 o20) h36 fun t145 h37 =>
pickK t143 t145 (.bool false) fun t146 =>
k19 .ret [(8, t146)] h37) (fun k19 =>
k19 .normal [(9, (get tT_4 9))] h35) (seqK (fun tT_5 h38 =>
enterK C F.stats_Histogram_Min [(get tT_5 9)] h38 fun t149 h39 =>
bareK (xextract t149 0) h39 fun t150 h40 =>
bareK (xextract t149 1) h40 fun t151 h41 =>
enterK C F.stats_Histogram_Max [(get tT_5 9)] h41 fun t154 h42 =>
bareK (xextract t154 0) h42 fun t155 h43 =>
bareK (xextract t154 1) h43 fun t156 h44 =>
enterK C F.stats_Histogram_Mean [(get tT_5 9)] h44 fun t159 h45 =>
bareK (xextract t159 0) h45 fun t160 h46 =>
bareK (xextract t159 1) h46 fun t161 h47 =>
bareK (xbin P .neq T.api_Errno (.tmp 162) (.const (.int .i64 0)) t151 (.int .i64 0)) h47 fun t163 h48 =>
mg t163 false (fun o21 => o21 t156 h48) h48 fun t165 h49 =>
mg t163 false (fun o22 => bareK (xbin P .neq T.api_Errno (.tmp 165) (.const (.int .i64 0)) t165 (.int .i64 0)) h49 o22) h49 fun t166 h50 =>
pickK t163 (.bool true) t166 fun t167 =>
mg t167 false (fun o23 => o23 t161 h50) h50 fun t169 h51 =>
mg t167 false (fun o24 => bareK (xbin P .neq T.api_Errno (.tmp 169) (.const (.int .i64 0)) t169 (.int .i64 0)) h51 o24) h51 fun t170 h52 =>
pickK t167 (.bool true) t170 fun t171 =>
mg t171 false (fun o25 => o25 t160 h52) h52 fun t173 h53 =>
mg t171 false (fun o26 => o26 t150 h53) h53 fun t174 h54 =>
mg t171 false (fun o27 => bareK (xbin P .lss T.int (.tmp 173) (.tmp 174) t173 t174) h54 o27) h54 fun t175 h55 =>
pickK t171 (.bool true) t175 fun t176 =>
mg t176 false (fun o28 => o28 t160 h55) h55 fun t178 h56 =>
mg t176 false (fun o29 => o29 t155 h56) h56 fun t179 h57 =>
mg t176 false (fun o30 => bareK (xbin P .gtr T.int (.tmp 178) (.tmp 179) t178 t179) h57 o30) h57 fun t180 h58 =>
pickK t176 (.bool true) t180 fun t181 =>
mc t181 (fun k31 => k31 .ret [(8, (.bool false))] h58) (fun k31 =>
k31 .normal [(9, (get tT_5 9)), (24, t155)] h58) (seqK (fun tT_6 h59 =>
ms (fun k32 =>
L3 (get tT_6 9) (get tT_6 24) (.int .i64 0) (.int .i64 0) h59 (blkK [24, 28] 6 k32)) (seqK (fun tT_7 h60 =>
bareK (xbin P .eql T.int (.tmp 205) (.tmp 206) (get tT_7 28) (get tT_7 24)) h60 fun t207 h61 =>
mg t207 true (fun o33 => enterK C F.law_known [] h61 o33) h61 fun t209 h62 =>
pickK t207 t209 (.bool false) fun t210 =>
K0 .ret [(8, t210)] h62) K0)) K0)) K0)) K0)) K0)) K0)) K0)) K0)

noncomputable def s_law_StatsHolds_b0 (mg : GT) (mc : CT) (ms : ST) (P : Program) (C : CallF) (L0 : Value → Value → Value → Value → Value → Value → Value → Value → Value → AHeap → K → Res) (L1 : Value → Value → Value → Value → Value → Value → Value → Value → Value → Value → Value → Value → Value → AHeap → K → Res) (L2 : Value → Value → Value → Value → AHeap → K → Res) (L3 : Value → Value → Value → Value → AHeap → K → Res) (v0 : Value) (v1 : Value) (v2 : Value) (v3 : Value) (v9 : Value) (v10 : Value) (v11 : Value) (v12 : Value) (v13 : Value) (H : AHeap) (k : K) : Res :=
bareK (lenS v0) H fun t53 h18 =>
bareK (xbin P .lss T.int (.tmp 51) (.tmp 53) v13 t53) h18 fun t54 h19 =>
mc t54 (fun k8 => k8 .normal [(0, v0), (1, v1), (2, v2), (3, v3), (9, v9), (10, v10), (11, v11), (12, v12), (13, v13)] h19) (fun k8 =>
k8 (.exit 0) [(54, t54), (53, t53), (52, v0), (51, v13), (0, v0), (1, v1), (2, v2), (3, v3), (9, v9), (10, v10), (11, v11), (12, v12), (13, v13)] h19) (seqK (fun tT h20 =>
ms (fun k9 =>
bareK (ixS 1 (get tT 0) (get tT 13)) h20 fun t59 h21 =>
bareK (ld1 h21 t59) h21 fun t60 h22 =>
bareK (xbin P .rem T.uint64 (.tmp 60) (.const (.int .u64 1099511627777)) t60 (.int .u64 1099511627777)) h22 fun t61 h23 =>
bothK (xconv P T.uint64 T.int t61 h23) fun t62 h24 =>
bareK (ixS 1 (get tT 1) (get tT 13)) h24 fun t65 h25 =>
bareK (ld1 h25 t65) h25 fun t66 h26 =>
bareK (xbin P .rem T.uint8 (.tmp 66) (.const (.int .u8 6)) t66 (.int .u8 6)) h26 fun t67 h27 =>
bothK (xconv P T.uint8 T.int t67 h27) fun t68 h28 =>
checkK true <|
enterK C F.stats_Histogram_Add [(get tT 9), t62, t68] h28 fun t72 h29 =>
bareK (xbin P .neq T.api_Errno (.tmp 72) (.const (.int .i64 0)) t72 (.int .i64 0)) h29 fun t73 h30 =>
mc t73 (fun k10 => k10 .ret [(8, (.bool false))] h30) (fun k10 =>
k10 .normal [(0, (get tT 0)), (1, (get tT 1)), (2, (get tT 2)), (3, (get tT 3)), (9, (get tT 9)), (10, (get tT 10)), (11, (get tT 11)), (12, (get tT 12)), (13, (get tT 13)), (14, t62), (15, t68)] h30) (seqK (fun tT_1 h31 =>
bothK (xconv P T.uint8 T.int (get tT_1 3) h31) fun t76 h32 =>
bareK (xbin P .add T.int (.tmp 74) (.tmp 76) (get tT_1 13) t76) h32 fun t77 h33 =>
bareK (lenS (get tT_1 0)) h33 fun t79 h34 =>
bareK (xbin P .rem T.int (.tmp 77) (.tmp 79) t77 t79) h34 fun t80 h35 =>
ms (fun k11 =>
L1 (get tT_1 0) (get tT_1 1) (get tT_1 2) (get tT_1 3) (get tT_1 9) (get tT_1 10) (get tT_1 11) (get tT_1 12) (get tT_1 13) (get tT_1 14) (get tT_1 15) t80 (.int .i64 0) h35 (blkK [0, 1, 2, 3, 9, 10, 11, 12, 13, 14, 15] 2 k11)) (seqK (fun tT_2 h36 =>
bothK (xconv P T.uint8 T.int (get tT_2 2) h36) fun t103 h37 =>
bareK (xbin P .geq T.int (.tmp 101) (.tmp 103) (get tT_2 13) t103) h37 fun t104 h38 =>
mc t104 (fun k12 => k12 .normal [(0, (get tT_2 0)), (1, (get tT_2 1)), (2, (get tT_2 2)), (3, (get tT_2 3)), (9, (get tT_2 9)), (10, (get tT_2 10)), (11, (get tT_2 11)), (12, (get tT_2 12)), (13, (get tT_2 13)), (14, (get tT_2 14)), (15, (get tT_2 15)), (18, (get tT_2 12))] h38) (fun k12 =>
k12 .normal [(0, (get tT_2 0)), (1, (get tT_2 1)), (2, (get tT_2 2)), (3, (get tT_2 3)), (9, (get tT_2 9)), (10, (get tT_2 10)), (11, (get tT_2 11)), (12, (get tT_2 12)), (13, (get tT_2 13)), (14, (get tT_2 14)), (15, (get tT_2 15)), (18, (get tT_2 11))] h38) (seqK (fun tT_3 h39 =>
enterK C F.stats_Histogram_Add [(get tT_3 18), (get tT_3 14), (get tT_3 15)] h39 fun t109 h40 =>
bareK (xbin P .neq T.api_Errno (.tmp 109) (.const (.int .i64 0)) t109 (.int .i64 0)) h40 fun t110 h41 =>
mc t110 (fun k13 => k13 .ret [(8, (.bool false))] h41) (fun k13 =>
k13 .normal [(0, (get tT_3 0)), (1, (get tT_3 1)), (2, (get tT_3 2)), (3, (get tT_3 3)), (9, (get tT_3 9)), (10, (get tT_3 10)), (11, (get tT_3 11)), (12, (get tT_3 12)), (13, (get tT_3 13))] h41) (blkK [0, 1, 2, 3, 9, 10, 11, 12, 13] 1 k9)) (blkK [0, 1, 2, 3, 9, 10, 11, 12, 13] 1 k9))) (blkK [0, 1, 2, 3, 9, 10, 11, 12, 13] 1 k9))) (blkK [0, 1, 2, 3, 9, 10, 11, 12, 13] 1 k9))) (seqK (fun tT_4 h42 =>
bareK (xbin P .add T.int (.tmp 55) (.const (.int .i64 1)) (get tT_4 13) (.int .i64 1)) h42 fun t56 h43 =>
k .normal [(0, (get tT_4 0)), (1, (get tT_4 1)), (2, (get tT_4 2)), (3, (get tT_4 3)), (9, (get tT_4 9)), (10, (get tT_4 10)), (11, (get tT_4 11)), (12, (get tT_4 12)), (13, t56)] h43) (afterK [0, 1, 2, 3, 9, 10, 11, 12, 13] k))) (afterK [0, 1, 2, 3, 9, 10, 11, 12, 13] k))

noncomputable def s_law_StatsHolds_b1 (mg : GT) (mc : CT) (ms : ST) (P : Program) (C : CallF) (L0 : Value → Value → Value → Value → Value → Value → Value → Value → Value → AHeap → K → Res) (L1 : Value → Value → Value → Value → Value → Value → Value → Value → Value → Value → Value → Value → Value → AHeap → K → Res) (L2 : Value → Value → Value → Value → AHeap → K → Res) (L3 : Value → Value → Value → Value → AHeap → K → Res) (v0 : Value) (v1 : Value) (v2 : Value) (v3 : Value) (v9 : Value) (v10 : Value) (v11 : Value) (v12 : Value) (v13 : Value) (v14 : Value) (v15 : Value) (v16 : Value) (v17 : Value) (H : AHeap) (k : K) : Res :=
bareK (ixS 1 v1 v16) H fun t84 h36 =>
bareK (ld1 h36 t84) h36 fun t85 h37 =>
bareK (xbin P .rem T.uint8 (.tmp 85) (.const (.int .u8 6)) t85 (.int .u8 6)) h37 fun t86 h38 =>
bothK (xconv P T.uint8 T.int t86 h38) fun t87 h39 =>
bareK (xbin P .lss T.int (.tmp 81) (.tmp 87) v17 t87) h39 fun t88 h40 =>
mc t88 (fun k12 => k12 .normal [(0, v0), (1, v1), (2, v2), (3, v3), (9, v9), (10, v10), (11, v11), (12, v12), (13, v13), (14, v14), (15, v15), (16, v16), (17, v17)] h40) (fun k12 =>
k12 (.exit 2) [(88, t88), (87, t87), (86, t86), (85, t85), (84, t84), (83, v16), (82, v1), (81, v17), (0, v0), (1, v1), (2, v2), (3, v3), (9, v9), (10, v10), (11, v11), (12, v12), (13, v13), (14, v14), (15, v15), (16, v16), (17, v17)] h40) (seqK (fun tT h41 =>
ms (fun k13 =>
bareK (ixS 1 (get tT 0) (get tT 16)) h41 fun t94 h42 =>
bareK (ld1 h42 t94) h42 fun t95 h43 =>
bareK (xbin P .rem T.uint64 (.tmp 95) (.const (.int .u64 1099511627777)) t95 (.int .u64 1099511627777)) h43 fun t96 h44 =>
bothK (xconv P T.uint64 T.int t96 h44) fun t97 h45 =>
enterK C F.stats_Histogram_Add [(get tT 10), t97, (.int .i64 1)] h45 fun t98 h46 =>
bareK (xbin P .neq T.api_Errno (.tmp 98) (.const (.int .i64 0)) t98 (.int .i64 0)) h46 fun t99 h47 =>
mc t99 (fun k14 => k14 .ret [(8, (.bool false))] h47) (fun k14 =>
k14 .normal [(0, (get tT 0)), (1, (get tT 1)), (2, (get tT 2)), (3, (get tT 3)), (9, (get tT 9)), (10, (get tT 10)), (11, (get tT 11)), (12, (get tT 12)), (13, (get tT 13)), (14, (get tT 14)), (15, (get tT 15)), (16, (get tT 16)), (17, (get tT 17))] h47) (blkK [0, 1, 2, 3, 9, 10, 11, 12, 13, 14, 15, 16, 17] 3 k13)) (seqK (fun tT_1 h48 =>
bareK (xbin P .add T.int (.tmp 89) (.const (.int .i64 1)) (get tT_1 17) (.int .i64 1)) h48 fun t90 h49 =>
k .normal [(0, (get tT_1 0)), (1, (get tT_1 1)), (2, (get tT_1 2)), (3, (get tT_1 3)), (9, (get tT_1 9)), (10, (get tT_1 10)), (11, (get tT_1 11)), (12, (get tT_1 12)), (13, (get tT_1 13)), (14, (get tT_1 14)), (15, (get tT_1 15)), (16, (get tT_1 16)), (17, t90)] h49) (afterK [0, 1, 2, 3, 9, 10, 11, 12, 13, 14, 15, 16, 17] k))) (afterK [0, 1, 2, 3, 9, 10, 11, 12, 13, 14, 15, 16, 17] k))

noncomputable def s_law_StatsHolds_b2 (mg : GT) (mc : CT) (ms : ST) (P : Program) (C : CallF) (L0 : Value → Value → Value → Value → Value → Value → Value → Value → Value → AHeap → K → Res) (L1 : Value → Value → Value → Value → Value → Value → Value → Value → Value → Value → Value → Value → Value → AHeap → K → Res) (L2 : Value → Value → Value → Value → AHeap → K → Res) (L3 : Value → Value → Value → Value → AHeap → K → Res) (v9 : Value) (v19 : Value) (v128 : Value) (v129 : Value) (H : AHeap) (k : K) : Res :=
bareK (xbin P .lss T.int (.tmp 129) (.const (.int .i64 42)) v129 (.int .i64 42)) H fun t130 h31 =>
mc t130 (fun k18 => k18 .normal [(9, v9), (19, v19), (128, v128), (129, v129)] h31) (fun k18 =>
k18 (.exit 4) [(130, t130), (9, v9), (19, v19), (128, v128), (129, v129)] h31) (seqK (fun tT h32 =>
ms (fun k19 =>
bareK (xindex P T.n42_int (get tT 128) (get tT 129)) h32 fun t131 h33 =>
bareK (xbin P .add T.int (.tmp 132) (.tmp 133) (get tT 19) t131) h33 fun t134 h34 =>
k19 .normal [(9, (get tT 9)), (19, t134), (128, (get tT 128)), (129, (get tT 129))] h34) (seqK (fun tT_1 h35 =>
bareK (xbin P .add T.int (.tmp 129) (.const (.int .i64 1)) (get tT_1 129) (.int .i64 1)) h35 fun t135 h36 =>
k .normal [(9, (get tT_1 9)), (19, (get tT_1 19)), (128, (get tT_1 128)), (129, t135)] h36) (afterK [9, 19, 128, 129] k))) (afterK [9, 19, 128, 129] k))

noncomputable def s_law_StatsHolds_b3 (mg : GT) (mc : CT) (ms : ST) (P : Program) (C : CallF) (L0 : Value → Value → Value → Value → Value → Value → Value → Value → Value → AHeap → K → Res) (L1 : Value → Value → Value → Value → Value → Value → Value → Value → Value → Value → Value → Value → Value → AHeap → K → Res) (L2 : Value → Value → Value → Value → AHeap → K → Res) (L3 : Value → Value → Value → Value → AHeap → K → Res) (v9 : Value) (v24 : Value) (v28 : Value) (v29 : Value) (H : AHeap) (k : K) : Res :=
bareK (xbin P .leq T.int (.tmp 182) (.const (.int .i64 1000)) v29 (.int .i64 1000)) H fun t183 h60 =>
mc t183 (fun k33 => k33 .normal [(9, v9), (24, v24), (28, v28), (29, v29)] h60) (fun k33 =>
k33 (.exit 6) [(183, t183), (182, v29), (9, v9), (24, v24), (28, v28), (29, v29)] h60) (seqK (fun tT h61 =>
ms (fun k34 =>
enterK C F.stats_Histogram_Quantile [(get tT 9), (get tT 29)] h61 fun t189 h62 =>
bareK (xextract t189 0) h62 fun t190 h63 =>
bareK (xextract t189 1) h63 fun t191 h64 =>
bareK (xbin P .neq T.api_Errno (.tmp 192) (.const (.int .i64 0)) t191 (.int .i64 0)) h64 fun t193 h65 =>
mg t193 false (fun o35 => o35 t190 h65) h65 fun t195 h66 =>
mg t193 false (fun o36 => o36 (get tT 28) h66) h66 fun t196 h67 =>
mg t193 false (fun o37 => bareK (xbin P .lss T.int (.tmp 195) (.tmp 196) t195 t196) h67 o37) h67 fun t197 h68 =>
pickK t193 (.bool true) t197 fun t198 =>
mg t198 false (fun o38 => o38 t190 h68) h68 fun t200 h69 =>
mg t198 false (fun o39 => o39 (get tT 24) h69) h69 fun t201 h70 =>
mg t198 false (fun o40 => bareK (xbin P .gtr T.int (.tmp 200) (.tmp 201) t200 t201) h70 o40) h70 fun t202 h71 =>
pickK t198 (.bool true) t202 fun t203 =>
mc t203 (fun k41 => k41 .ret [(8, (.bool false))] h71) (fun k41 =>
k41 .normal [(9, (get tT 9)), (24, (get tT 24)), (29, (get tT 29)), (30, t190)] h71) (seqK (fun tT_1 h72 =>
k34 .normal [(9, (get tT_1 9)), (24, (get tT_1 24)), (28, (get tT_1 30)), (29, (get tT_1 29))] h72) (blkK [9, 24, 28, 29] 7 k34))) (seqK (fun tT_2 h73 =>
bareK (xbin P .add T.int (.tmp 184) (.const (.int .i64 50)) (get tT_2 29) (.int .i64 50)) h73 fun t185 h74 =>
k .normal [(9, (get tT_2 9)), (24, (get tT_2 24)), (28, (get tT_2 28)), (29, t185)] h74) (afterK [9, 24, 28, 29] k))) (afterK [9, 24, 28, 29] k))

theorem s_law_StatsHolds_eq (M : CombL) (C : CallF) (LP : LoopH) (a0 : Value) (a1 : Value) (a2 : Value) (a3 : Value) (H : AHeap) : dBodyL M Try.prog hints C LP F.law_StatsHolds [a0, a1, a2, a3] H = s_law_StatsHolds M.b.g M.c M.s Try.prog C (fun v0 v1 v2 v3 v9 v10 v11 v12 v13 H k => loopL M Try.prog hints C LP F.law_StatsHolds 0 [(0, v0), (1, v1), (2, v2), (3, v3), (9, v9), (10, v10), (11, v11), (12, v12), (13, v13)] H k) (fun v0 v1 v2 v3 v9 v10 v11 v12 v13 v14 v15 v16 v17 H k => loopL M Try.prog hints C LP F.law_StatsHolds 1 [(0, v0), (1, v1), (2, v2), (3, v3), (9, v9), (10, v10), (11, v11), (12, v12), (13, v13), (14, v14), (15, v15), (16, v16), (17, v17)] H k) (fun v9 v19 v128 v129 H k => loopL M Try.prog hints C LP F.law_StatsHolds 2 [(9, v9), (19, v19), (128, v128), (129, v129)] H k) (fun v9 v24 v28 v29 H k => loopL M Try.prog hints C LP F.law_StatsHolds 3 [(9, v9), (24, v24), (28, v28), (29, v29)] H k) a0 a1 a2 a3 H (endK Try.prog [.tmp 8]) := by kernel_rfl

theorem s_law_StatsHolds_b0_eq (M : CombL) (C : CallF) (LP : LoopH) (v0 : Value) (v1 : Value) (v2 : Value) (v3 : Value) (v9 : Value) (v10 : Value) (v11 : Value) (v12 : Value) (v13 : Value) (H : AHeap) (k : K) : bodyL M Try.prog hints C LP F.law_StatsHolds 0 [(0, v0), (1, v1), (2, v2), (3, v3), (9, v9), (10, v10), (11, v11), (12, v12), (13, v13)] H (afterK [0, 1, 2, 3, 9, 10, 11, 12, 13] k) = s_law_StatsHolds_b0 M.b.g M.c M.s Try.prog C (fun v0 v1 v2 v3 v9 v10 v11 v12 v13 H k => loopL M Try.prog hints C LP F.law_StatsHolds 0 [(0, v0), (1, v1), (2, v2), (3, v3), (9, v9), (10, v10), (11, v11), (12, v12), (13, v13)] H k) (fun v0 v1 v2 v3 v9 v10 v11 v12 v13 v14 v15 v16 v17 H k => loopL M Try.prog hints C LP F.law_StatsHolds 1 [(0, v0), (1, v1), (2, v2), (3, v3), (9, v9), (10, v10), (11, v11), (12, v12), (13, v13), (14, v14), (15, v15), (16, v16), (17, v17)] H k) (fun v9 v19 v128 v129 H k => loopL M Try.prog hints C LP F.law_StatsHolds 2 [(9, v9), (19, v19), (128, v128), (129, v129)] H k) (fun v9 v24 v28 v29 H k => loopL M Try.prog hints C LP F.law_StatsHolds 3 [(9, v9), (24, v24), (28, v28), (29, v29)] H k) v0 v1 v2 v3 v9 v10 v11 v12 v13 H k := by kernel_rfl

theorem s_law_StatsHolds_b1_eq (M : CombL) (C : CallF) (LP : LoopH) (v0 : Value) (v1 : Value) (v2 : Value) (v3 : Value) (v9 : Value) (v10 : Value) (v11 : Value) (v12 : Value) (v13 : Value) (v14 : Value) (v15 : Value) (v16 : Value) (v17 : Value) (H : AHeap) (k : K) : bodyL M Try.prog hints C LP F.law_StatsHolds 1 [(0, v0), (1, v1), (2, v2), (3, v3), (9, v9), (10, v10), (11, v11), (12, v12), (13, v13), (14, v14), (15, v15), (16, v16), (17, v17)] H (afterK [0, 1, 2, 3, 9, 10, 11, 12, 13, 14, 15, 16, 17] k) = s_law_StatsHolds_b1 M.b.g M.c M.s Try.prog C (fun v0 v1 v2 v3 v9 v10 v11 v12 v13 H k => loopL M Try.prog hints C LP F.law_StatsHolds 0 [(0, v0), (1, v1), (2, v2), (3, v3), (9, v9), (10, v10), (11, v11), (12, v12), (13, v13)] H k) (fun v0 v1 v2 v3 v9 v10 v11 v12 v13 v14 v15 v16 v17 H k => loopL M Try.prog hints C LP F.law_StatsHolds 1 [(0, v0), (1, v1), (2, v2), (3, v3), (9, v9), (10, v10), (11, v11), (12, v12), (13, v13), (14, v14), (15, v15), (16, v16), (17, v17)] H k) (fun v9 v19 v128 v129 H k => loopL M Try.prog hints C LP F.law_StatsHolds 2 [(9, v9), (19, v19), (128, v128), (129, v129)] H k) (fun v9 v24 v28 v29 H k => loopL M Try.prog hints C LP F.law_StatsHolds 3 [(9, v9), (24, v24), (28, v28), (29, v29)] H k) v0 v1 v2 v3 v9 v10 v11 v12 v13 v14 v15 v16 v17 H k := by kernel_rfl

theorem s_law_StatsHolds_b2_eq (M : CombL) (C : CallF) (LP : LoopH) (v9 : Value) (v19 : Value) (v128 : Value) (v129 : Value) (H : AHeap) (k : K) : bodyL M Try.prog hints C LP F.law_StatsHolds 2 [(9, v9), (19, v19), (128, v128), (129, v129)] H (afterK [9, 19, 128, 129] k) = s_law_StatsHolds_b2 M.b.g M.c M.s Try.prog C (fun v0 v1 v2 v3 v9 v10 v11 v12 v13 H k => loopL M Try.prog hints C LP F.law_StatsHolds 0 [(0, v0), (1, v1), (2, v2), (3, v3), (9, v9), (10, v10), (11, v11), (12, v12), (13, v13)] H k) (fun v0 v1 v2 v3 v9 v10 v11 v12 v13 v14 v15 v16 v17 H k => loopL M Try.prog hints C LP F.law_StatsHolds 1 [(0, v0), (1, v1), (2, v2), (3, v3), (9, v9), (10, v10), (11, v11), (12, v12), (13, v13), (14, v14), (15, v15), (16, v16), (17, v17)] H k) (fun v9 v19 v128 v129 H k => loopL M Try.prog hints C LP F.law_StatsHolds 2 [(9, v9), (19, v19), (128, v128), (129, v129)] H k) (fun v9 v24 v28 v29 H k => loopL M Try.prog hints C LP F.law_StatsHolds 3 [(9, v9), (24, v24), (28, v28), (29, v29)] H k) v9 v19 v128 v129 H k := by kernel_rfl

theorem s_law_StatsHolds_b3_eq (M : CombL) (C : CallF) (LP : LoopH) (v9 : Value) (v24 : Value) (v28 : Value) (v29 : Value) (H : AHeap) (k : K) : bodyL M Try.prog hints C LP F.law_StatsHolds 3 [(9, v9), (24, v24), (28, v28), (29, v29)] H (afterK [9, 24, 28, 29] k) = s_law_StatsHolds_b3 M.b.g M.c M.s Try.prog C (fun v0 v1 v2 v3 v9 v10 v11 v12 v13 H k => loopL M Try.prog hints C LP F.law_StatsHolds 0 [(0, v0), (1, v1), (2, v2), (3, v3), (9, v9), (10, v10), (11, v11), (12, v12), (13, v13)] H k) (fun v0 v1 v2 v3 v9 v10 v11 v12 v13 v14 v15 v16 v17 H k => loopL M Try.prog hints C LP F.law_StatsHolds 1 [(0, v0), (1, v1), (2, v2), (3, v3), (9, v9), (10, v10), (11, v11), (12, v12), (13, v13), (14, v14), (15, v15), (16, v16), (17, v17)] H k) (fun v9 v19 v128 v129 H k => loopL M Try.prog hints C LP F.law_StatsHolds 2 [(9, v9), (19, v19), (128, v128), (129, v129)] H k) (fun v9 v24 v28 v29 H k => loopL M Try.prog hints C LP F.law_StatsHolds 3 [(9, v9), (24, v24), (28, v28), (29, v29)] H k) v9 v24 v28 v29 H k := by kernel_rfl

end Go.Proofs.Ytplblfcofplcmaa

/-
  The equations of the seat's functions over calls in the limit (a program of ours printed it).
  Conditions: none. By an AI agent.
-/
set_option linter.unusedVariables false
namespace Go.Proofs.Ytplblfcofplcmaa
open Go Eng

@[go_sem] theorem x_uint64_int {n : Int} {H : AHeap} : xconv Try.prog T.uint64 T.int (.int .u64 n) H = some (.int .i64 (IntKind.wrap .i64 n), H) := xconv_int (P := Try.prog) (s := 48) (t := 3) Try.underlying48 Try.underlying3

noncomputable def l_law_StatsHolds_0 (v0 : Value) (v1 : Value) (v2 : Value) (v3 : Value) (v9 : Value) (v10 : Value) (v11 : Value) (v12 : Value) (v13 : Value) (H : AHeap) (k : K) : Res := loopL stdL Try.prog hints CC limLP F.law_StatsHolds 0 [(0, v0), (1, v1), (2, v2), (3, v3), (9, v9), (10, v10), (11, v11), (12, v12), (13, v13)] H k
noncomputable def l_law_StatsHolds_1 (v0 : Value) (v1 : Value) (v2 : Value) (v3 : Value) (v9 : Value) (v10 : Value) (v11 : Value) (v12 : Value) (v13 : Value) (v14 : Value) (v15 : Value) (v16 : Value) (v17 : Value) (H : AHeap) (k : K) : Res := loopL stdL Try.prog hints CC limLP F.law_StatsHolds 1 [(0, v0), (1, v1), (2, v2), (3, v3), (9, v9), (10, v10), (11, v11), (12, v12), (13, v13), (14, v14), (15, v15), (16, v16), (17, v17)] H k
noncomputable def l_law_StatsHolds_2 (v9 : Value) (v19 : Value) (v128 : Value) (v129 : Value) (H : AHeap) (k : K) : Res := loopL stdL Try.prog hints CC limLP F.law_StatsHolds 2 [(9, v9), (19, v19), (128, v128), (129, v129)] H k
noncomputable def l_law_StatsHolds_3 (v9 : Value) (v24 : Value) (v28 : Value) (v29 : Value) (H : AHeap) (k : K) : Res := loopL stdL Try.prog hints CC limLP F.law_StatsHolds 3 [(9, v9), (24, v24), (28, v28), (29, v29)] H k
theorem r_law_StatsHolds_0 (v0 : Value) (v1 : Value) (v2 : Value) (v3 : Value) (v9 : Value) (v10 : Value) (v11 : Value) (v12 : Value) (v13 : Value) (H : AHeap) (k : K) : l_law_StatsHolds_0 v0 v1 v2 v3 v9 v10 v11 v12 v13 H k = s_law_StatsHolds_b0 guardK condL shareL Try.prog CC l_law_StatsHolds_0 l_law_StatsHolds_1 l_law_StatsHolds_2 l_law_StatsHolds_3 v0 v1 v2 v3 v9 v10 v11 v12 v13 H (seqK (fun T H => l_law_StatsHolds_0 (get T 0) (get T 1) (get T 2) (get T 3) (get T 9) (get T 10) (get T 11) (get T 12) (get T 13) H k) k) := ((loopL_next (by kernel_rfl) rfl H k).trans (s_law_StatsHolds_b0_eq stdL CC limLP v0 v1 v2 v3 v9 v10 v11 v12 v13 H _)).trans (by kernel_rfl)
theorem r_law_StatsHolds_1 (v0 : Value) (v1 : Value) (v2 : Value) (v3 : Value) (v9 : Value) (v10 : Value) (v11 : Value) (v12 : Value) (v13 : Value) (v14 : Value) (v15 : Value) (v16 : Value) (v17 : Value) (H : AHeap) (k : K) : l_law_StatsHolds_1 v0 v1 v2 v3 v9 v10 v11 v12 v13 v14 v15 v16 v17 H k = s_law_StatsHolds_b1 guardK condL shareL Try.prog CC l_law_StatsHolds_0 l_law_StatsHolds_1 l_law_StatsHolds_2 l_law_StatsHolds_3 v0 v1 v2 v3 v9 v10 v11 v12 v13 v14 v15 v16 v17 H (seqK (fun T H => l_law_StatsHolds_1 (get T 0) (get T 1) (get T 2) (get T 3) (get T 9) (get T 10) (get T 11) (get T 12) (get T 13) (get T 14) (get T 15) (get T 16) (get T 17) H k) k) := ((loopL_next (by kernel_rfl) rfl H k).trans (s_law_StatsHolds_b1_eq stdL CC limLP v0 v1 v2 v3 v9 v10 v11 v12 v13 v14 v15 v16 v17 H _)).trans (by kernel_rfl)
theorem r_law_StatsHolds_2 (v9 : Value) (v19 : Value) (v128 : Value) (v129 : Value) (H : AHeap) (k : K) : l_law_StatsHolds_2 v9 v19 v128 v129 H k = s_law_StatsHolds_b2 guardK condL shareL Try.prog CC l_law_StatsHolds_0 l_law_StatsHolds_1 l_law_StatsHolds_2 l_law_StatsHolds_3 v9 v19 v128 v129 H (seqK (fun T H => l_law_StatsHolds_2 (get T 9) (get T 19) (get T 128) (get T 129) H k) k) := ((loopL_next (by kernel_rfl) rfl H k).trans (s_law_StatsHolds_b2_eq stdL CC limLP v9 v19 v128 v129 H _)).trans (by kernel_rfl)
theorem r_law_StatsHolds_3 (v9 : Value) (v24 : Value) (v28 : Value) (v29 : Value) (H : AHeap) (k : K) : l_law_StatsHolds_3 v9 v24 v28 v29 H k = s_law_StatsHolds_b3 guardK condL shareL Try.prog CC l_law_StatsHolds_0 l_law_StatsHolds_1 l_law_StatsHolds_2 l_law_StatsHolds_3 v9 v24 v28 v29 H (seqK (fun T H => l_law_StatsHolds_3 (get T 9) (get T 24) (get T 28) (get T 29) H k) k) := ((loopL_next (by kernel_rfl) rfl H k).trans (s_law_StatsHolds_b3_eq stdL CC limLP v9 v24 v28 v29 H _)).trans (by kernel_rfl)
theorem d_law_StatsHolds (a0 : Value) (a1 : Value) (a2 : Value) (a3 : Value) (H : AHeap) {r : Value × AHeap} (h : s_law_StatsHolds guardK condL shareL Try.prog CC l_law_StatsHolds_0 l_law_StatsHolds_1 l_law_StatsHolds_2 l_law_StatsHolds_3 a0 a1 a2 a3 H (endK Try.prog [.tmp 8]) = some r) : CC F.law_StatsHolds [a0, a1, a2, a3] H = some (tidy H r) := D_body (by kernel_rfl) ((s_law_StatsHolds_eq stdL CC limLP a0 a1 a2 a3 H).trans (Eq.trans (show s_law_StatsHolds stdL.b.g stdL.c stdL.s Try.prog CC (fun v0 v1 v2 v3 v9 v10 v11 v12 v13 H k => loopL stdL Try.prog hints CC limLP F.law_StatsHolds 0 [(0, v0), (1, v1), (2, v2), (3, v3), (9, v9), (10, v10), (11, v11), (12, v12), (13, v13)] H k) (fun v0 v1 v2 v3 v9 v10 v11 v12 v13 v14 v15 v16 v17 H k => loopL stdL Try.prog hints CC limLP F.law_StatsHolds 1 [(0, v0), (1, v1), (2, v2), (3, v3), (9, v9), (10, v10), (11, v11), (12, v12), (13, v13), (14, v14), (15, v15), (16, v16), (17, v17)] H k) (fun v9 v19 v128 v129 H k => loopL stdL Try.prog hints CC limLP F.law_StatsHolds 2 [(9, v9), (19, v19), (128, v128), (129, v129)] H k) (fun v9 v24 v28 v29 H k => loopL stdL Try.prog hints CC limLP F.law_StatsHolds 3 [(9, v9), (24, v24), (28, v28), (29, v29)] H k) a0 a1 a2 a3 H (endK Try.prog [.tmp 8]) = s_law_StatsHolds guardK condL shareL Try.prog CC l_law_StatsHolds_0 l_law_StatsHolds_1 l_law_StatsHolds_2 l_law_StatsHolds_3 a0 a1 a2 a3 H (endK Try.prog [.tmp 8]) by kernel_rfl) h))

end Go.Proofs.Ytplblfcofplcmaa

/-
  Chapter 26: the law StatsHolds runs to true.
  Conditions: none. By an AI agent.
-/
set_option maxRecDepth 10000
set_option linter.unusedSimpArgs false
set_option linter.unusedVariables false
namespace Go.Proofs.Ytplblfcofplcmaa
open Go Eng

def EU : Enc Nat := ⟨1, fun a => [.int .u64 (a : Int)], fun _ => rfl, by decide, fun _ => rfl⟩

abbrev pt (b : Nat) : Value := .pointer (some ⟨b, 0, none⟩)

structure Hs (v w : Value) (l : List Nat) (t : List UInt8) (b : Nat) (A B C D : List Nat) (H : AHeap) : Prop where
  n : b + 3 < H.n
  ok : ∀ c, H.ver c < H.clk
  f0 : H.f b = HB (ofL A)
  f1 : H.f (b + 1) = HB (ofL B)
  f2 : H.f (b + 2) = HB (ofL C)
  f3 : H.f (b + 3) = HB (ofL D)
  rl : Rd EU H v l
  rt : Rd EB H w t
  ov : ∀ c, blockOf v = some c → c < b
  ow : ∀ c, blockOf w = some c → c < b
  lA : Low A
  lB : Low B
  lC : Low C
  lD : Low D

theorem low_rep {n t : Nat} (hn : n ≤ 1099511627776) : Low (List.replicate t n) := fun m hm => by rw [List.eq_of_mem_replicate hm]; exact hn
theorem room {L : List Nat} {n t : Nat} (hL : Low L) (h : L.length ≤ 1000) (hn : n ≤ 1099511627776) (ht : t ≤ 5) : L.length + t ≤ 1099511627776 ∧ L.sum + n * t ≤ 4611686018427387904 := by
  have h1 := low_sum hL
  have h2 : n * t ≤ 1099511627776 * 5 := Nat.mul_le_mul hn ht
  omega

section
variable {v w : Value} {l : List Nat} {t : List UInt8} {b : Nat} {A B C D : List Nat} {H : AHeap}
theorem Hs.add0 (h : Hs v w l t b A B C D H) (hl : A.length ≤ 1000) {n m : Nat} (hn : n ≤ 1099511627776) (hm : m ≤ 5) :
    ∃ H', CC F.stats_Histogram_Add [pt b, .int .i64 (n : Int), .int .i64 (m : Int)] H = some (.int .i64 0, H') ∧ Hs v w l t b (A ++ List.replicate m n) B C D H' := by
  have hr := room h.lA hl hn hm
  obtain ⟨H', hc, hf, fr⟩ := q_lAdd A b n m H h.f0 (by have := h.n; omega) h.ok h.lA hn hr.1 hr.2
  have hn' := h.n
  exact ⟨H', hc, Nat.lt_of_lt_of_le h.n fr.n, fr.ok h.ok, hf, by rw [fr.f (by omega) (by omega)]; exact h.f1, by rw [fr.f (by omega) (by omega)]; exact h.f2, by rw [fr.f (by omega) (by omega)]; exact h.f3,
    h.rl.keep fr fun c hc h' => by have := h.ov c hc; omega, h.rt.keep fr fun c hc h' => by have := h.ow c hc; omega, h.ov, h.ow, low_app.2 ⟨h.lA, low_rep hn⟩, h.lB, h.lC, h.lD⟩
theorem Hs.add1 (h : Hs v w l t b A B C D H) (hl : B.length ≤ 1000) {n m : Nat} (hn : n ≤ 1099511627776) (hm : m ≤ 5) :
    ∃ H', CC F.stats_Histogram_Add [pt (b + 1), .int .i64 (n : Int), .int .i64 (m : Int)] H = some (.int .i64 0, H') ∧ Hs v w l t b A (B ++ List.replicate m n) C D H' := by
  have hr := room h.lB hl hn hm
  obtain ⟨H', hc, hf, fr⟩ := q_lAdd B (b + 1) n m H h.f1 (by have := h.n; omega) h.ok h.lB hn hr.1 hr.2
  have hn' := h.n
  exact ⟨H', hc, Nat.lt_of_lt_of_le h.n fr.n, fr.ok h.ok, by rw [fr.f (by omega) (by omega)]; exact h.f0, hf, by rw [fr.f (by omega) (by omega)]; exact h.f2, by rw [fr.f (by omega) (by omega)]; exact h.f3,
    h.rl.keep fr fun c hc h' => by have := h.ov c hc; omega, h.rt.keep fr fun c hc h' => by have := h.ow c hc; omega, h.ov, h.ow, h.lA, low_app.2 ⟨h.lB, low_rep hn⟩, h.lC, h.lD⟩
theorem Hs.add2 (h : Hs v w l t b A B C D H) (hl : C.length ≤ 1000) {n m : Nat} (hn : n ≤ 1099511627776) (hm : m ≤ 5) :
    ∃ H', CC F.stats_Histogram_Add [pt (b + 2), .int .i64 (n : Int), .int .i64 (m : Int)] H = some (.int .i64 0, H') ∧ Hs v w l t b A B (C ++ List.replicate m n) D H' := by
  have hr := room h.lC hl hn hm
  obtain ⟨H', hc, hf, fr⟩ := q_lAdd C (b + 2) n m H h.f2 (by have := h.n; omega) h.ok h.lC hn hr.1 hr.2
  have hn' := h.n
  exact ⟨H', hc, Nat.lt_of_lt_of_le h.n fr.n, fr.ok h.ok, by rw [fr.f (by omega) (by omega)]; exact h.f0, by rw [fr.f (by omega) (by omega)]; exact h.f1, hf, by rw [fr.f (by omega) (by omega)]; exact h.f3,
    h.rl.keep fr fun c hc h' => by have := h.ov c hc; omega, h.rt.keep fr fun c hc h' => by have := h.ow c hc; omega, h.ov, h.ow, h.lA, h.lB, low_app.2 ⟨h.lC, low_rep hn⟩, h.lD⟩
theorem Hs.add3 (h : Hs v w l t b A B C D H) (hl : D.length ≤ 1000) {n m : Nat} (hn : n ≤ 1099511627776) (hm : m ≤ 5) :
    ∃ H', CC F.stats_Histogram_Add [pt (b + 3), .int .i64 (n : Int), .int .i64 (m : Int)] H = some (.int .i64 0, H') ∧ Hs v w l t b A B C (D ++ List.replicate m n) H' := by
  have hr := room h.lD hl hn hm
  obtain ⟨H', hc, hf, fr⟩ := q_lAdd D (b + 3) n m H h.f3 (by have := h.n; omega) h.ok h.lD hn hr.1 hr.2
  have hn' := h.n
  exact ⟨H', hc, Nat.lt_of_lt_of_le h.n fr.n, fr.ok h.ok, by rw [fr.f (by omega) (by omega)]; exact h.f0, by rw [fr.f (by omega) (by omega)]; exact h.f1, by rw [fr.f (by omega) (by omega)]; exact h.f2, hf,
    h.rl.keep fr fun c hc h' => by have := h.ov c hc; omega, h.rt.keep fr fun c hc h' => by have := h.ow c hc; omega, h.ov, h.ow, h.lA, h.lB, h.lC, low_app.2 ⟨h.lD, low_rep hn⟩⟩
theorem Hs.join (h : Hs v w l t b A B C D H) (h1 : C.length ≤ 1000) (h2 : D.length ≤ 1000) :
    ∃ H', CC F.stats_Histogram_Merge [pt (b + 2), pt (b + 3)] H = some (.int .i64 0, H') ∧ Hs v w l t b A B (C ++ D) D H' := by
  have s1 := low_sum h.lC
  have s2 := low_sum h.lD
  have hn' := h.n
  obtain ⟨H', hc, hf, fr⟩ := q_lMerge C D (b + 2) (b + 3) H h.f2 h.f3 (by omega) h.ok h.lC h.lD (by omega) (by omega)
  exact ⟨H', hc, Nat.lt_of_lt_of_le h.n fr.n, fr.ok h.ok, by rw [fr.f (by omega) (by omega)]; exact h.f0, by rw [fr.f (by omega) (by omega)]; exact h.f1, hf, by rw [fr.f (by omega) (by omega)]; exact h.f3,
    h.rl.keep fr fun c hc h' => by have := h.ov c hc; omega, h.rt.keep fr fun c hc h' => by have := h.ow c hc; omega, h.ov, h.ow, h.lA, h.lB, low_app.2 ⟨h.lC, h.lD⟩, h.lD⟩

/-! ### elements -/
def nAt (l : List Nat) (i : Nat) : Nat := l.getD i 0 % 1099511627777
def mAt (t : List UInt8) (i : Nat) : Nat := (t.getD i 0).toNat % 6
theorem nAt_le (l : List Nat) (i : Nat) : nAt l i ≤ 1099511627776 := by
  have : nAt l i < 1099511627777 := Nat.mod_lt _ (by decide)
  omega
theorem mAt_le (t : List UInt8) (i : Nat) : mAt t i ≤ 5 := by
  have : mAt t i < 6 := Nat.mod_lt _ (by decide)
  omega
theorem Hs.n_at (h : Hs v w l t b A B C D H) {i : Nat} (hi : i < l.length) : ∃ bb o x, ixS 1 v (.int .i64 (i : Int)) = some (.pointer (some ⟨bb, o, none⟩)) ∧ cellB (H.f bb) o = some (.int .u64 (x : Int)) ∧
    (∀ ox oy, xbin Try.prog .rem T.uint64 ox oy (.int .u64 (x : Int)) (.int .u64 1099511627777) = some (.int .u64 (nAt l i : Int))) := by
  obtain ⟨bb, o, hix, hb, hc, _⟩ := h.rl.ix (q := .i64) hi
  refine ⟨bb, o, l[i], hix, cutB_cell hc (i := 0) (by decide), fun ox oy => ?_⟩
  have e : nAt l i = l[i] % 1099511627777 := by unfold nAt; rw [List.getD, List.getElem?_eq_getElem hi]; rfl
  rw [e]
  exact remN (a := l[i]) (b := 1099511627777) (by decide)
theorem Hs.m_at (h : Hs v w l t b A B C D H) {i : Nat} (hi : i < t.length) : ∃ bb o x, ixS 1 w (.int .i64 (i : Int)) = some (.pointer (some ⟨bb, o, none⟩)) ∧ cellB (H.f bb) o = some (.int .u8 (x : Int)) ∧
    (∀ ox oy, xbin Try.prog .rem T.uint8 ox oy (.int .u8 (x : Int)) (.int .u8 6) = some (.int .u8 (mAt t i : Int))) := by
  obtain ⟨bb, o, hix, hc, hb, _⟩ := h.rt.byte hi
  refine ⟨bb, o, t[i].toNat, hix, hc, fun ox oy => ?_⟩
  have e : mAt t i = t[i].toNat % 6 := by unfold mAt; rw [List.getD, List.getElem?_eq_getElem hi]; rfl
  rw [e]
  exact remN (a := t[i].toNat) (b := 6) (by decide)
theorem cv64 {H : AHeap} (n : Nat) (h : n ≤ 1099511627776) : xconv Try.prog T.uint64 T.int (.int .u64 (n : Int)) H = some (.int .i64 (n : Int), H) := by
  rw [show xconv Try.prog T.uint64 T.int (.int .u64 (n : Int)) H = _ from xconv_int Try.underlying48 Try.underlying3, wrap_i64 (by omega)]
theorem cv8 {H : AHeap} (n : Nat) (h : n ≤ 255) : xconv Try.prog T.uint8 T.int (.int .u8 (n : Int)) H = some (.int .i64 (n : Int), H) := by
  rw [show xconv Try.prog T.uint8 T.int (.int .u8 (n : Int)) H = _ from xconv_int Try.underlying5 Try.underlying3, wrap_i64 (by omega)]

attribute [local congr] bareK_congr bothK_congr

theorem l_in (x2 x3 x13 x14 x15 : Value) (k : Nat) (hk : k < l.length) (hk2 : k < t.length) : ∀ (d j : Nat) (B : List Nat) (H : AHeap), j + d = mAt t k → B.length + d ≤ 1000 → Hs v w l t b A B C D H →
    ∃ H', (∀ K, l_law_StatsHolds_1 v w x2 x3 (pt b) (pt (b + 1)) (pt (b + 2)) (pt (b + 3)) x13 x14 x15 (.int .i64 (k : Int)) (.int .i64 (j : Int)) H (blkK [0, 1, 2, 3, 9, 10, 11, 12, 13, 14, 15] 2 K) =
      K .normal [(0, v), (1, w), (2, x2), (3, x3), (9, pt b), (10, pt (b + 1)), (11, pt (b + 2)), (12, pt (b + 3)), (13, x13), (14, x14), (15, x15)] H') ∧ Hs v w l t b A (B ++ List.replicate d (nAt l k)) C D H'
  | 0, j, B, H, hj, hB, h => by
    obtain ⟨bb, o, x, i1, i2, i3⟩ := h.m_at hk2
    have hm := mAt_le t k
    have hlt : ¬ (j : Int) < (mAt t k : Int) := by omega
    refine ⟨H, fun K => ?_, by simpa using h⟩
    rw [r_law_StatsHolds_1]
    simp (disch := first | with_reducible rfl | assumption | omega | rfl | (simp only [go_sem]; first | done | omega)) only [go_sem, ↓reduceIte, reduceCtorEq, Nat.reduceEqDiff, Nat.reduceAdd, Nat.reduceSub, Nat.reduceMul, Nat.reduceDiv, Nat.reduceMod, Nat.reduceLeDiff, Nat.reduceLT, Nat.reduceBEq, Int.reduceEq, Int.reduceBEq, Int.reduceBNe, Int.reduceLT, Int.reduceLE, Int.reduceAdd, Int.reduceSub, Int.reduceNeg, Int.reduceToNat, Int.reducePow, Nat.reducePow, Int.reduceMul, Int.reduceDiv, ↓s_law_StatsHolds_b1, i1, i2, i3, cv8 (mAt t k) (by omega), hlt]
  | d + 1, j, B, H, hj, hB, h => by
    obtain ⟨bb, o, x, i1, i2, i3⟩ := h.m_at hk2
    obtain ⟨bb', o', x', i4, i5, i6⟩ := h.n_at hk
    have hm := mAt_le t k
    have hlt : (j : Int) < (mAt t k : Int) := by omega
    obtain ⟨H1, ha, h1⟩ := h.add1 (by omega) (nAt_le l k) (m := 1) (by decide)
    have ha : CC F.stats_Histogram_Add [pt (b + 1), .int .i64 (nAt l k : Int), .int .i64 1] H = some (.int .i64 0, H1) := ha
    obtain ⟨H2, hl, h2⟩ := l_in x2 x3 x13 x14 x15 k hk hk2 d (j + 1) (B ++ List.replicate 1 (nAt l k)) H1 (by omega) (by simp; omega) h1
    refine ⟨H2, fun K => ?_, ?_⟩
    · have ih := hl K
      rw [Int.natCast_add] at ih
      rw [r_law_StatsHolds_1]
      simp (disch := first | with_reducible rfl | assumption | omega | rfl | (simp only [go_sem]; first | done | omega)) only [go_sem, ↓reduceIte, reduceCtorEq, Nat.reduceEqDiff, Nat.reduceAdd, Nat.reduceSub, Nat.reduceMul, Nat.reduceDiv, Nat.reduceMod, Nat.reduceLeDiff, Nat.reduceLT, Nat.reduceBEq, Int.reduceEq, Int.reduceBEq, Int.reduceBNe, Int.reduceLT, Int.reduceLE, Int.reduceAdd, Int.reduceSub, Int.reduceNeg, Int.reduceToNat, Int.reducePow, Nat.reducePow, Int.reduceMul, Int.reduceDiv, ↓s_law_StatsHolds_b1, i1, i2, i3, i4, i5, i6, cv8 (mAt t k) (by omega), cv64 (nAt l k) (nAt_le l k), hlt, ↓enterK_eq ha, enterK_eq ha]
      exact ih
    · rw [List.append_assoc] at h2
      exact h2

def repA (l : List Nat) (t : List UInt8) (i : Nat) : List Nat := List.replicate (mAt t i) (nAt l i)
theorem repA_len (l : List Nat) (t : List UInt8) (i : Nat) : (repA l t i).length ≤ 5 := by unfold repA; rw [List.length_replicate]; exact mAt_le t i
theorem repA_low (l : List Nat) (t : List UInt8) (i : Nat) : Low (repA l t i) := low_rep (nAt_le l i)

theorem l_out (part turn : Nat) (hp : part ≤ 255) (ht : turn ≤ 255) (hl40 : l.length ≤ 40) (hlt : l.length ≤ t.length) : ∀ (d k : Nat) (H : AHeap), k + d = l.length →
    Hs v w l t b ((List.range k).flatMap (repA l t)) ((List.range k).flatMap fun i => repA l t ((i + turn) % l.length)) ((List.range k).flatMap fun i => if i < part then repA l t i else []) ((List.range k).flatMap fun i => if i < part then [] else repA l t i) H →
    ∃ H', (∀ K, l_law_StatsHolds_0 v w (.int .u8 (part : Int)) (.int .u8 (turn : Int)) (pt b) (pt (b + 1)) (pt (b + 2)) (pt (b + 3)) (.int .i64 (k : Int)) H (blkK [9, 10, 11, 12] 0 K) = K .normal [(9, pt b), (10, pt (b + 1)), (11, pt (b + 2)), (12, pt (b + 3))] H') ∧
      Hs v w l t b ((List.range l.length).flatMap (repA l t)) ((List.range l.length).flatMap fun i => repA l t ((i + turn) % l.length)) ((List.range l.length).flatMap fun i => if i < part then repA l t i else []) ((List.range l.length).flatMap fun i => if i < part then [] else repA l t i) H'
  | 0, k, H, hk, h => by
    obtain rfl : k = l.length := by omega
    have hlen := h.rl.lenS
    refine ⟨H, fun K => ?_, h⟩
    rw [r_law_StatsHolds_0]
    simp (disch := first | with_reducible rfl | assumption | omega | rfl | (simp only [go_sem]; first | done | omega)) only [go_sem, ↓reduceIte, reduceCtorEq, Nat.reduceEqDiff, Nat.reduceAdd, Nat.reduceSub, Nat.reduceMul, Nat.reduceDiv, Nat.reduceMod, Nat.reduceLeDiff, Nat.reduceLT, Nat.reduceBEq, Int.reduceEq, Int.reduceBEq, Int.reduceBNe, Int.reduceLT, Int.reduceLE, Int.reduceAdd, Int.reduceSub, Int.reduceNeg, Int.reduceToNat, Int.reducePow, Nat.reducePow, Int.reduceMul, Int.reduceDiv, ↓s_law_StatsHolds_b0, hlen, Int.lt_irrefl, decide_false]
  | d + 1, k, H, hk, h => by
    have hk1 : k < l.length := by omega
    have hlen := h.rl.lenS
    have hlt' : (k : Int) < (l.length : Int) := by omega
    obtain ⟨bb, o, x, i1, i2, i3⟩ := h.m_at (i := k) (by omega)
    obtain ⟨bb', o', x', i4, i5, i6⟩ := h.n_at hk1
    have hm := mAt_le t k
    have lA := flat_len (repA_len l t) k
    have lB := flat_len (f := fun i => repA l t ((i + turn) % l.length)) (fun i => repA_len l t _) k
    have lC := flat_len (f := fun i => if i < part then repA l t i else []) (fun i => by split; exact repA_len l t i; simp) k
    have lD := flat_len (f := fun i => if i < part then [] else repA l t i) (fun i => by split; simp; exact repA_len l t i) k
    obtain ⟨H1, ha, h1⟩ := h.add0 (by omega) (nAt_le l k) hm
    have hlen1 := h1.rl.lenS
    obtain ⟨r, hr⟩ : ∃ r, (k + turn) % l.length = r := ⟨_, rfl⟩
    have hrl : r < l.length := by rw [← hr]; exact Nat.mod_lt _ (by omega)
    have hrem : ∀ ox oy, xbin Try.prog .rem T.int ox oy (.int .i64 ((k : Int) + (turn : Int))) (.int .i64 (l.length : Int)) = some (.int .i64 (r : Int)) := fun ox oy => by
      rw [← Int.natCast_add, ← hr]; exact remN (by omega)
    have hmr := mAt_le t r
    obtain ⟨H2, hin, h2⟩ := l_in (.int .u8 (part : Int)) (.int .u8 (turn : Int)) (.int .i64 (k : Int)) (.int .i64 (nAt l k : Int)) (.int .i64 (mAt t k : Int)) r hrl (by omega) (mAt t r) 0 _ H1 (by omega) (by omega) h1
    have hin : ∀ K, l_law_StatsHolds_1 v w (.int .u8 (part : Int)) (.int .u8 (turn : Int)) (pt b) (pt (b + 1)) (pt (b + 2)) (pt (b + 3)) (.int .i64 (k : Int)) (.int .i64 (nAt l k : Int)) (.int .i64 (mAt t k : Int)) (.int .i64 (r : Int)) (.int .i64 0) H1 (blkK [0, 1, 2, 3, 9, 10, 11, 12, 13, 14, 15] 2 K) = K .normal _ H2 := hin
    have hs : ∀ H', Hs v w l t b ((List.range (k + 1)).flatMap (repA l t)) ((List.range (k + 1)).flatMap fun i => repA l t ((i + turn) % l.length)) ((List.range (k + 1)).flatMap fun i => if i < part then repA l t i else []) ((List.range (k + 1)).flatMap fun i => if i < part then [] else repA l t i) H' →
        ∃ H'', (∀ K, l_law_StatsHolds_0 v w (.int .u8 (part : Int)) (.int .u8 (turn : Int)) (pt b) (pt (b + 1)) (pt (b + 2)) (pt (b + 3)) (.int .i64 ((k : Int) + 1)) H' (blkK [9, 10, 11, 12] 0 K) = K .normal [(9, pt b), (10, pt (b + 1)), (11, pt (b + 2)), (12, pt (b + 3))] H'') ∧
      Hs v w l t b ((List.range l.length).flatMap (repA l t)) ((List.range l.length).flatMap fun i => repA l t ((i + turn) % l.length)) ((List.range l.length).flatMap fun i => if i < part then repA l t i else []) ((List.range l.length).flatMap fun i => if i < part then [] else repA l t i) H'' := fun H' h' => by
      obtain ⟨H'', g1, g2⟩ := l_out part turn hp ht hl40 hlt d (k + 1) H' (by omega) h'
      exact ⟨H'', fun K => by have := g1 K; rw [Int.natCast_add] at this; exact this, g2⟩
    rw [flat_succ, flat_succ, flat_succ, flat_succ] at hs
    simp only [hr] at hs
    by_cases hpk : k < part
    · have hge : ¬ (part : Int) ≤ (k : Int) := by omega
      obtain ⟨H3, hb, h3⟩ := h2.add2 (by omega) (nAt_le l k) hm
      simp only [hpk, if_true, List.append_nil] at hs
      obtain ⟨H4, hl, h4⟩ := hs H3 h3
      refine ⟨H4, fun K => ?_, h4⟩
      have ih := hl K
      rw [r_law_StatsHolds_0]
      simp (disch := first | with_reducible rfl | assumption | omega | rfl | (simp only [go_sem]; first | done | omega)) only [go_sem, ↓reduceIte, reduceCtorEq, Nat.reduceEqDiff, Nat.reduceAdd, Nat.reduceSub, Nat.reduceMul, Nat.reduceDiv, Nat.reduceMod, Nat.reduceLeDiff, Nat.reduceLT, Nat.reduceBEq, Int.reduceEq, Int.reduceBEq, Int.reduceBNe, Int.reduceLT, Int.reduceLE, Int.reduceAdd, Int.reduceSub, Int.reduceNeg, Int.reduceToNat, Int.reducePow, Nat.reducePow, Int.reduceMul, Int.reduceDiv, ↓s_law_StatsHolds_b0, hlen, hlen1, hlt', i1, i2, i3, i4, i5, i6, cv8 (mAt t k) (by omega), cv8 turn ht, cv8 part hp, cv64 (nAt l k) (nAt_le l k), ↓enterK_eq ha, enterK_eq ha, hrem, hin, hge, ↓enterK_eq hb, enterK_eq hb]
      exact ih
    · have hge : (part : Int) ≤ (k : Int) := by omega
      obtain ⟨H3, hb, h3⟩ := h2.add3 (by omega) (nAt_le l k) hm
      simp only [hpk, if_false, List.append_nil] at hs
      obtain ⟨H4, hl, h4⟩ := hs H3 h3
      refine ⟨H4, fun K => ?_, h4⟩
      have ih := hl K
      rw [r_law_StatsHolds_0]
      simp (disch := first | with_reducible rfl | assumption | omega | rfl | (simp only [go_sem]; first | done | omega)) only [go_sem, ↓reduceIte, reduceCtorEq, Nat.reduceEqDiff, Nat.reduceAdd, Nat.reduceSub, Nat.reduceMul, Nat.reduceDiv, Nat.reduceMod, Nat.reduceLeDiff, Nat.reduceLT, Nat.reduceBEq, Int.reduceEq, Int.reduceBEq, Int.reduceBNe, Int.reduceLT, Int.reduceLE, Int.reduceAdd, Int.reduceSub, Int.reduceNeg, Int.reduceToNat, Int.reducePow, Nat.reducePow, Int.reduceMul, Int.reduceDiv, ↓s_law_StatsHolds_b0, hlen, hlen1, hlt', i1, i2, i3, i4, i5, i6, cv8 (mAt t k) (by omega), cv8 turn ht, cv8 part hp, cv64 (nAt l k) (nAt_le l k), ↓enterK_eq ha, enterK_eq ha, hrem, hin, hge, ↓enterK_eq hb, enterK_eq hb]
      exact ih
end

end Go.Proofs.Ytplblfcofplcmaa

/-
  Chapter 26: the law StatsHolds runs to true.
  Conditions: none. By an AI agent.
-/
set_option maxRecDepth 10000
set_option linter.unusedSimpArgs false
set_option linter.unusedVariables false
namespace Go.Proofs.Ytplblfcofplcmaa
open Go Eng
attribute [local congr] bareK_congr bothK_congr
attribute [-go_sem] bldS

theorem sameB_refl (x : Hi) : sameB x x = true := by unfold sameB; simp
theorem q_same (x : Hi) (a b : Nat) (H : AHeap) (ha : H.f a = HB x) (hb : H.f b = HB x) (han : a < H.n) (hbn : b < H.n) : CC F.law_same [pt a, pt b] H = some (.bool true, H) := by
  have e1 := q_Min x a H ha
  have e2 := q_Max x a H ha
  have e3 := q_Min x b H hb
  have e4 := q_Max x b H hb
  apply pure_of _ (d_law_same _ _ H) rfl
  rotate_left 2
  · simp (disch := first | with_reducible rfl | assumption | omega | rfl | (simp only [go_sem]; first | done | omega)) only [go_sem, ↓reduceIte, reduceCtorEq, Nat.reduceEqDiff, Nat.reduceAdd, Nat.reduceSub, Nat.reduceMul, Nat.reduceDiv, Nat.reduceMod, Nat.reduceLeDiff, Nat.reduceLT, Nat.reduceBEq, Int.reduceEq, Int.reduceBEq, Int.reduceBNe, Int.reduceLT, Int.reduceLE, Int.reduceAdd, Int.reduceSub, Int.reduceNeg, Int.reduceToNat, Int.reducePow, Nat.reducePow, Int.reduceMul, Int.reduceDiv, ↓s_law_same, ↓enterK_eq e1, enterK_eq e1, ↓enterK_eq e2, enterK_eq e2, ↓enterK_eq e3, enterK_eq e3, ↓enterK_eq e4, enterK_eq e4, enterK_eq (q_Count x a H ha), enterK_eq (q_Count x b H hb), enterK_eq (q_Sum x a H ha), enterK_eq (q_Sum x b H hb), enterK_eq (q_Buckets x a H ha han), enterK_eq (q_Buckets x b H hb hbn), bk_eq, sameB_refl, decide_true]
    rfl
  · (repeat (first | exact Fr.refl _ | refine Fr.push ?_ _ | refine Fr.set ?_ _ _ (by intro h; first | omega | (simp only [go_sem] at h; omega))))
theorem q_ends_empty (x : Hi) (b : Nat) (H : AHeap) (hf : H.f b = HB x) (hs : 0 ≤ x.s ∧ x.s ≤ 4611686018427387904) (he : empB x = true) : CC F.law_ends [pt b, .int .i64 0, .int .i64 0, .int .i64 0, .int .i64 9] H = some (.bool true, H) := by
  have e1 := q_Min x b H hf
  have e2 := q_Max x b H hf
  have e3 := q_Mean x b H hf hs (.inl he)
  rw [if_pos he, if_pos he] at e1 e2 e3
  apply pure_of _ (d_law_ends _ _ _ _ _ H) rfl
  rotate_left 2
  · simp (disch := first | with_reducible rfl | assumption | omega | rfl | (simp only [go_sem]; first | done | omega)) only [go_sem, ↓reduceIte, reduceCtorEq, Nat.reduceEqDiff, Nat.reduceAdd, Nat.reduceSub, Nat.reduceMul, Nat.reduceDiv, Nat.reduceMod, Nat.reduceLeDiff, Nat.reduceLT, Nat.reduceBEq, Int.reduceEq, Int.reduceBEq, Int.reduceBNe, Int.reduceLT, Int.reduceLE, Int.reduceAdd, Int.reduceSub, Int.reduceNeg, Int.reduceToNat, Int.reducePow, Nat.reducePow, Int.reduceMul, Int.reduceDiv, ↓s_law_ends, ↓enterK_eq e1, enterK_eq e1, ↓enterK_eq e2, enterK_eq e2, ↓enterK_eq e3, enterK_eq e3]
    rfl
  · (repeat (first | exact Fr.refl _ | refine Fr.push ?_ _ | refine Fr.set ?_ _ _ (by intro h; first | omega | (simp only [go_sem] at h; omega))))

theorem l_sum (x : Hi) (p : Value) (H : AHeap) (hx : OkI x) (K : K) : ∀ (d i : Nat), i + d = 42 →
    l_law_StatsHolds_2 p (.int .i64 (sumB x.bk i)) (.agg ⟨bkv x⟩) (.int .i64 (i : Int)) H (blkK [9, 19] 4 K) = K .normal [(9, p), (19, .int .i64 (sumB x.bk 42))] H
  | 0, i, hi => by
    obtain rfl : i = 42 := by omega
    rw [r_law_StatsHolds_2]
    simp (disch := first | with_reducible rfl | assumption | omega | rfl | (simp only [go_sem]; first | done | omega)) only [go_sem, ↓reduceIte, reduceCtorEq, Nat.reduceEqDiff, Nat.reduceAdd, Nat.reduceSub, Nat.reduceMul, Nat.reduceDiv, Nat.reduceMod, Nat.reduceLeDiff, Nat.reduceLT, Nat.reduceBEq, Int.reduceEq, Int.reduceBEq, Int.reduceBNe, Int.reduceLT, Int.reduceLE, Int.reduceAdd, Int.reduceSub, Int.reduceNeg, Int.reduceToNat, Int.reducePow, Nat.reducePow, Int.reduceMul, Int.reduceDiv, ↓s_law_StatsHolds_b2, Int.lt_irrefl, decide_false]
  | d + 1, i, hi => by
    have h : (i : Int) < 42 := by omega
    have h' : i < 42 := by omega
    have ih := l_sum x p H hx K d (i + 1) (by omega)
    rw [Int.natCast_add] at ih
    have b1 := sumB_le hx.bk (i + 1) (by omega)
    rw [sumB] at ih b1
    obtain ⟨S, hS⟩ : ∃ S, sumB x.bk i = S := ⟨_, rfl⟩
    rw [hS] at ih b1 ⊢
    rw [r_law_StatsHolds_2]
    simp (disch := first | with_reducible rfl | assumption | omega | rfl | (simp only [go_sem]; first | done | omega)) only [go_sem, ↓reduceIte, reduceCtorEq, Nat.reduceEqDiff, Nat.reduceAdd, Nat.reduceSub, Nat.reduceMul, Nat.reduceDiv, Nat.reduceMod, Nat.reduceLeDiff, Nat.reduceLT, Nat.reduceBEq, Int.reduceEq, Int.reduceBEq, Int.reduceBNe, Int.reduceLT, Int.reduceLE, Int.reduceAdd, Int.reduceSub, Int.reduceNeg, Int.reduceToNat, Int.reducePow, Nat.reducePow, Int.reduceMul, Int.reduceDiv, ↓s_law_StatsHolds_b2, h, bk_ix x h']
    exact ih

theorem l_qs (x : Hi) (b : Nat) (H : AHeap) (hf : H.f b = HB x) (hx : OkI x) (he : empB x = false) (htop : qtL x 1000 42 0 0 = x.h) (K : K) : ∀ (d i : Nat) (be : Int), i + d = 21 → (i ≤ 20 → be ≤ qtL x (50 * i : Int) 42 0 0) → (i = 21 → be = x.h) →
    l_law_StatsHolds_3 (pt b) (.int .i64 x.h) (.int .i64 be) (.int .i64 (50 * i : Int)) H (blkK [24, 28] 6 K) = K .normal [(24, .int .i64 x.h), (28, .int .i64 x.h)] H
  | 0, i, be, hi, h1, h2 => by
    have h : ¬ (50 * i : Int) ≤ 1000 := by omega
    rw [h2 (by omega), r_law_StatsHolds_3]
    simp (disch := first | with_reducible rfl | assumption | omega | rfl | (simp only [go_sem]; first | done | omega)) only [go_sem, ↓reduceIte, reduceCtorEq, Nat.reduceEqDiff, Nat.reduceAdd, Nat.reduceSub, Nat.reduceMul, Nat.reduceDiv, Nat.reduceMod, Nat.reduceLeDiff, Nat.reduceLT, Nat.reduceBEq, Int.reduceEq, Int.reduceBEq, Int.reduceBNe, Int.reduceLT, Int.reduceLE, Int.reduceAdd, Int.reduceSub, Int.reduceNeg, Int.reduceToNat, Int.reducePow, Nat.reducePow, Int.reduceMul, Int.reduceDiv, ↓s_law_StatsHolds_b3, h]
  | d + 1, i, be, hi, h1, h2 => by
    have h : (50 * i : Int) ≤ 1000 := by omega
    have hq := q_Quantile x b (50 * i : Int) H hf hx (by omega)
    rw [if_neg (by rw [he]; decide), if_neg (by rw [he]; decide)] at hq
    have l1 := h1 (by omega)
    have l2 := qt_le x (50 * i : Int) 42 0 0
    have ih := l_qs x b H hf hx he htop K d (i + 1) (qtL x (50 * i : Int) 42 0 0) (by omega) (fun _ => qt_mono x hx.c.1 (by omega) 42 0 0) (fun h => by
      have e : (50 * i : Int) = 1000 := by omega
      rw [e, htop])
    rw [show (50 * ((i + 1 : Nat) : Int)) = 50 * (i : Int) + 50 by omega] at ih
    obtain ⟨Q, hQ⟩ : ∃ Q, qtL x (50 * i : Int) 42 0 0 = Q := ⟨_, rfl⟩
    rw [hQ] at hq l1 l2 ih
    have d1 : ¬ Q < be := by omega
    have d2 : ¬ x.h < Q := by omega
    have hi20 : i ≤ 20 := by omega
    obtain ⟨P, hP⟩ : ∃ P : Int, 50 * (i : Int) = P := ⟨_, rfl⟩
    have hPr : 0 ≤ P ∧ P ≤ 1000 := by omega
    rw [hP] at h hq ih ⊢
    rw [r_law_StatsHolds_3]
    simp (disch := first | with_reducible rfl | assumption | omega | rfl | (simp only [go_sem]; first | done | omega)) only [go_sem, ↓reduceIte, reduceCtorEq, Nat.reduceEqDiff, Nat.reduceAdd, Nat.reduceSub, Nat.reduceMul, Nat.reduceDiv, Nat.reduceMod, Nat.reduceLeDiff, Nat.reduceLT, Nat.reduceBEq, Int.reduceEq, Int.reduceBEq, Int.reduceBNe, Int.reduceLT, Int.reduceLE, Int.reduceAdd, Int.reduceSub, Int.reduceNeg, Int.reduceToNat, Int.reducePow, Nat.reducePow, Int.reduceMul, Int.reduceDiv, ↓s_law_StatsHolds_b3, h, ↓enterK_eq hq, enterK_eq hq, d1, d2]
    exact ih

theorem q_StatsHolds (l : List Nat) (t : List UInt8) (v w : Value) (part turn : Nat) (H : AHeap) (ok : ∀ c, H.ver c < H.clk) (rl : Rd EU H v l) (rt : Rd EB H w t) (ov : ∀ c, blockOf v = some c → c < H.n) (ow : ∀ c, blockOf w = some c → c < H.n) (hp : part ≤ 255) (ht : turn ≤ 255) :
    ∃ H', CC F.law_StatsHolds [v, w, .int .u8 (part : Int), .int .u8 (turn : Int)] H = some (.bool true, H') := by
  have hll := rl.lenS
  have hlt := rt.lenS
  by_cases h40 : 40 < l.length
  · have h' : (40 : Int) < (l.length : Int) := by omega
    refine any_of (H1 := H) (d_law_StatsHolds _ _ _ _ H ?_)
    simp (disch := first | with_reducible rfl | assumption | omega | rfl | (simp only [go_sem]; first | done | omega)) only [go_sem, ↓reduceIte, reduceCtorEq, Nat.reduceEqDiff, Nat.reduceAdd, Nat.reduceSub, Nat.reduceMul, Nat.reduceDiv, Nat.reduceMod, Nat.reduceLeDiff, Nat.reduceLT, Nat.reduceBEq, Int.reduceEq, Int.reduceBEq, Int.reduceBNe, Int.reduceLT, Int.reduceLE, Int.reduceAdd, Int.reduceSub, Int.reduceNeg, Int.reduceToNat, Int.reducePow, Nat.reducePow, Int.reduceMul, Int.reduceDiv, ↓s_law_StatsHolds, hll, h', k_known, e_known]
  have h40' : ¬ (40 : Int) < (l.length : Int) := by omega
  by_cases hsh : t.length < l.length
  · have h' : (t.length : Int) < (l.length : Int) := by omega
    refine any_of (H1 := H) (d_law_StatsHolds _ _ _ _ H ?_)
    simp (disch := first | with_reducible rfl | assumption | omega | rfl | (simp only [go_sem]; first | done | omega)) only [go_sem, ↓reduceIte, reduceCtorEq, Nat.reduceEqDiff, Nat.reduceAdd, Nat.reduceSub, Nat.reduceMul, Nat.reduceDiv, Nat.reduceMod, Nat.reduceLeDiff, Nat.reduceLT, Nat.reduceBEq, Int.reduceEq, Int.reduceBEq, Int.reduceBNe, Int.reduceLT, Int.reduceLE, Int.reduceAdd, Int.reduceSub, Int.reduceNeg, Int.reduceToNat, Int.reducePow, Nat.reducePow, Int.reduceMul, Int.reduceDiv, ↓s_law_StatsHolds, hll, hlt, h40', h', k_known, e_known]
  have hsh' : ¬ (t.length : Int) < (l.length : Int) := by omega
  -- the four histograms
  have z0 : ∀ H : AHeap, newv T.stats_Histogram (.agg #[(.int .i64 0), (.int .i64 0), (.int .i64 0), (.int .i64 0), (.int .i64 0), (.int .i64 0), (.int .i64 0), (.int .i64 0), (.int .i64 0), (.int .i64 0), (.int .i64 0), (.int .i64 0), (.int .i64 0), (.int .i64 0), (.int .i64 0), (.int .i64 0), (.int .i64 0), (.int .i64 0), (.int .i64 0), (.int .i64 0), (.int .i64 0), (.int .i64 0), (.int .i64 0), (.int .i64 0), (.int .i64 0), (.int .i64 0), (.int .i64 0), (.int .i64 0), (.int .i64 0), (.int .i64 0), (.int .i64 0), (.int .i64 0), (.int .i64 0), (.int .i64 0), (.int .i64 0), (.int .i64 0), (.int .i64 0), (.int .i64 0), (.int .i64 0), (.int .i64 0), (.int .i64 0), (.int .i64 0), (.int .i64 0), (.int .i64 0), (.int .i64 0), (.int .i64 0)]) H = some (.pointer (some ⟨H.n, 0, none⟩), H.push (HB (ofL []))) := fun _ => rfl
  obtain ⟨H1, hH1⟩ : ∃ H1, H.push (HB (ofL [])) = H1 := ⟨_, rfl⟩
  obtain ⟨H2, hH2⟩ : ∃ H2, H1.push (HB (ofL [])) = H2 := ⟨_, rfl⟩
  obtain ⟨H3, hH3⟩ : ∃ H3, H2.push (HB (ofL [])) = H3 := ⟨_, rfl⟩
  obtain ⟨H4, hH4⟩ : ∃ H4, H3.push (HB (ofL [])) = H4 := ⟨_, rfl⟩
  have n1 : H1.n = H.n + 1 := by rw [← hH1]; rfl
  have n2 : H2.n = H.n + 2 := by rw [← hH2]; show H1.n + 1 = _; omega
  have n3 : H3.n = H.n + 3 := by rw [← hH3]; show H2.n + 1 = _; omega
  have n4 : H4.n = H.n + 4 := by rw [← hH4]; show H3.n + 1 = _; omega
  have st : Still H H4 := by rw [← hH4, ← hH3, ← hH2, ← hH1]; exact ((((Fr.refl H).push _).push _).push _).push _
  have hs0 : Hs v w l t H.n [] [] [] [] H4 := ⟨by omega, st.ok ok,
    by rw [← hH4, push_f_ne (by omega), ← hH3, push_f_ne (by omega), ← hH2, push_f_ne (by omega), ← hH1]; exact push_f_eq rfl,
    by rw [← hH4, push_f_ne (by omega), ← hH3, push_f_ne (by omega), ← hH2]; exact push_f_eq n1.symm,
    by rw [← hH4, push_f_ne (by omega), ← hH3]; exact push_f_eq n2.symm,
    by rw [← hH4]; exact push_f_eq n3.symm,
    rl.still st, rt.still st, ov, ow, fun n h => by simp at h, fun n h => by simp at h, fun n h => by simp at h, fun n h => by simp at h⟩
  obtain ⟨H5, hl, h5⟩ := l_out (b := H.n) part turn hp ht (by omega) (by omega) l.length 0 H4 (by omega) hs0
  have lC := flat_len (f := fun i => if i < part then repA l t i else []) (fun i => by split; exact repA_len l t i; simp) l.length
  have lD := flat_len (f := fun i => if i < part then [] else repA l t i) (fun i => by split; simp; exact repA_len l t i) l.length
  have lA := flat_len (repA_len l t) l.length
  obtain ⟨H6, hm, h6⟩ := h5.join (by omega) (by omega)
  have p1 := turn_perm (repA l t) turn l.length
  have p2 := part_perm (repA l t) part l.length
  obtain ⟨A, hA⟩ : ∃ A, (List.range l.length).flatMap (repA l t) = A := ⟨_, rfl⟩
  rw [hA] at h6 p1 p2 lA
  have g0 := h6.f0
  have g1 := h6.f1
  have g2 := h6.f2
  rw [ofL_perm p1] at g1
  rw [ofL_perm p2] at g2
  have hn := h6.n
  have lowA := h6.lA
  have hsum := low_sum lowA
  have oA := ok_ofL (L := A) (by omega) (by omega)
  have hq1 := q_same (ofL A) H.n (H.n + 1) H6 g0 g1 (by omega) (by omega)
  have hq2 := q_same (ofL A) H.n (H.n + 2) H6 g0 g2 (by omega) (by omega)
  have hb := q_Buckets (ofL A) H.n H6 g0 (by omega)
  have hls : ∀ K, l_law_StatsHolds_2 (pt H.n) (.int .i64 0) (.agg ⟨bkv (ofL A)⟩) (.int .i64 0) H6 (blkK [9, 19] 4 K) = K .normal [(9, pt H.n), (19, .int .i64 (A.length : Int))] H6 := fun K => by
    have := l_sum (ofL A) (pt H.n) H6 oA K 42 0 rfl
    rw [sumB_ofL lowA] at this
    exact this
  have hc := q_Count (ofL A) H.n H6 g0
  have hc : CC F.stats_Histogram_Count [pt H.n] H6 = some (.int .i64 (A.length : Int), H6) := hc
  have hl : ∀ K, l_law_StatsHolds_0 v w (.int .u8 (part : Int)) (.int .u8 (turn : Int)) (pt H.n) (pt (H.n + 1)) (pt (H.n + 2)) (pt (H.n + 3)) (.int .i64 0) H4 (blkK [9, 10, 11, 12] 0 K) = K .normal _ H5 := hl
  by_cases hA0 : A = []
  · subst hA0
    have he := q_ends_empty (ofL []) H.n H6 g0 (by decide) (emp_ofL (fun n h => by simp at h))
    refine any_of (H1 := H6) (d_law_StatsHolds _ _ _ _ H ?_)
    simp (disch := first | with_reducible rfl | assumption | omega | rfl | (simp only [go_sem]; first | done | omega)) only [go_sem, ↓reduceIte, reduceCtorEq, Nat.reduceEqDiff, Nat.reduceAdd, Nat.reduceSub, Nat.reduceMul, Nat.reduceDiv, Nat.reduceMod, Nat.reduceLeDiff, Nat.reduceLT, Nat.reduceBEq, Int.reduceEq, Int.reduceBEq, Int.reduceBNe, Int.reduceLT, Int.reduceLE, Int.reduceAdd, Int.reduceSub, Int.reduceNeg, Int.reduceToNat, Int.reducePow, Nat.reducePow, Int.reduceMul, Int.reduceDiv, ↓s_law_StatsHolds, hll, hlt, h40', hsh', ↓z0, z0, hH1, hH2, hH3, hH4, n1, n2, n3, hl, ↓enterK_eq hm, enterK_eq hm, ↓enterK_eq hq1, enterK_eq hq1, ↓enterK_eq hq2, enterK_eq hq2, ↓enterK_eq hb, enterK_eq hb, hls, ↓enterK_eq hc, enterK_eq hc, ↓enterK_eq he, enterK_eq he, e_known, List.length_nil, Int.natCast_zero, bldS_nil]
  · have he : empB (ofL A) = false := by rw [emp_ofL lowA]; cases A with | nil => exact absurd rfl hA0 | cons _ _ => rfl
    have hlp : 0 < A.length := List.length_pos_iff.2 hA0
    have hl0 : ¬ (A.length : Int) = 0 := by omega
    have e1 := q_Min (ofL A) H.n H6 g0
    have e2 := q_Max (ofL A) H.n H6 g0
    have e3 := q_Mean (ofL A) H.n H6 g0 oA.s (.inr (by show (0 : Int) < (A.length : Int); omega))
    rw [if_neg (by rw [he]; decide), if_neg (by rw [he]; decide)] at e1 e2 e3
    have hmean := mean_ok hA0
    have d1 : ¬ (ofL A).s / (ofL A).c < (ofL A).l := by omega
    have d2 : ¬ (ofL A).h < (ofL A).s / (ofL A).c := by omega
    have htop : qtL (ofL A) 1000 42 0 0 = (ofL A).h := by
      have := qt_top lowA hA0 42 0
      have e : below A 0 = 0 := List.countP_eq_zero.2 fun n _ => by simp
      rw [e] at this
      exact this
    have hq : ∀ K, l_law_StatsHolds_3 (pt H.n) (.int .i64 (ofL A).h) (.int .i64 0) (.int .i64 0) H6 (blkK [24, 28] 6 K) = K .normal [(24, .int .i64 (ofL A).h), (28, .int .i64 (ofL A).h)] H6 := fun K =>
      l_qs (ofL A) H.n H6 g0 oA he htop K 21 0 0 rfl (fun _ => qt_pos (ofL A) (by show (0 : Int) ≤ (mxL A : Int); omega) _ 42 0 0) (fun h => by omega)
    obtain ⟨X, hX⟩ : ∃ X, (ofL A).s / (ofL A).c = X := ⟨_, rfl⟩
    rw [hX] at e3 d1 d2
    obtain ⟨Y, hY⟩ : ∃ Y, (ofL A).h = Y := ⟨_, rfl⟩
    obtain ⟨Z, hZ⟩ : ∃ Z, (ofL A).l = Z := ⟨_, rfl⟩
    rw [hY] at e2 d2 hq
    rw [hZ] at e1 d1
    refine any_of (H1 := H6) (d_law_StatsHolds _ _ _ _ H ?_)
    simp (disch := first | with_reducible rfl | assumption | omega | rfl | (simp only [go_sem]; first | done | omega)) only [go_sem, ↓reduceIte, reduceCtorEq, Nat.reduceEqDiff, Nat.reduceAdd, Nat.reduceSub, Nat.reduceMul, Nat.reduceDiv, Nat.reduceMod, Nat.reduceLeDiff, Nat.reduceLT, Nat.reduceBEq, Int.reduceEq, Int.reduceBEq, Int.reduceBNe, Int.reduceLT, Int.reduceLE, Int.reduceAdd, Int.reduceSub, Int.reduceNeg, Int.reduceToNat, Int.reducePow, Nat.reducePow, Int.reduceMul, Int.reduceDiv, ↓s_law_StatsHolds, hll, hlt, h40', hsh', ↓z0, z0, hH1, hH2, hH3, hH4, n1, n2, n3, hl, ↓enterK_eq hm, enterK_eq hm, ↓enterK_eq hq1, enterK_eq hq1, ↓enterK_eq hq2, enterK_eq hq2, ↓enterK_eq hb, enterK_eq hb, hls, ↓enterK_eq hc, enterK_eq hc, hl0, ↓enterK_eq e1, enterK_eq e1, ↓enterK_eq e2, enterK_eq e2, ↓enterK_eq e3, enterK_eq e3, d1, d2, hq, e_known, bldS_nil]

theorem slok_lt {e : TypeId} {H : AHeap} {v : Value} (h : SlOk e H v) : ∀ c, blockOf v = some c → c < H.n := by
  rcases h with rfl | ⟨b, o, n, code, rfl, _, _, h3⟩
  · intro c h; cases h
  · intro c h; cases h; exact h3

theorem run_StatsHolds (W : World) (v : Value) (l : List Nat) (rl : RdS EU T.uint64 (absHeap2 W) v l) (_ : ∀ x, x ∈ l → True) (_ : l.length ≤ maxLen) (w : Value) (t : List UInt8) (rt : RdS EB T.uint8 (absHeap2 W) w t) (_ : ∀ x, x ∈ t → True) (_ : t.length ≤ maxLen)
    (p : Int) (hp : (Lit.int .u8 p).wf = true) (q : Int) (hq : (Lit.int .u8 q).wf = true) : ∃ k H', dCall Try.prog prims1 hints k F.law_StatsHolds [v, w, .int .u8 p, .int .u8 q] (absHeap2 W) = some (.bool true, H') := by
  have hp' : 0 ≤ p ∧ p < 256 := by simp [Lit.wf, IntKind.min, IntKind.max, IntKind.signed, IntKind.bits] at hp; omega
  have hq' : 0 ≤ q ∧ q < 256 := by simp [Lit.wf, IntKind.min, IntKind.max, IntKind.signed, IntKind.bits] at hq; omega
  obtain ⟨part, rfl⟩ : ∃ k : Nat, p = (k : Int) := ⟨p.toNat, by omega⟩
  obtain ⟨turn, rfl⟩ : ∃ k : Nat, q = (k : Int) := ⟨q.toNat, by omega⟩
  obtain ⟨H', h⟩ := q_StatsHolds l t v w part turn (absHeap2 W) (fun _ => Nat.zero_lt_one) rl.1 rt.1 (slok_lt rl.2) (slok_lt rt.2) (by omega) (by omega)
  obtain ⟨k, h⟩ := D_run h
  exact ⟨k, _, h⟩

theorem decB {W : World} {H : Type} {enc : TypeId × Value → H} (_ : 0 < W.heap.size) {cs : List Value} {n : Nat} {y : DataW H × List MemPlace} (h : DataW.trod enc Try.prog W 0 (fun _ => true) true n T.uint8 cs = some y) (hl : cs.length = EB.w) : ∃ a, cs.map (conv2 W.heap.size) = EB.enc a ∧ True := dec_u8 Try.underlying5 h hl
theorem decU {W : World} {H : Type} {enc : TypeId × Value → H} (_ : 0 < W.heap.size) {cs : List Value} {n : Nat} {y : DataW H × List MemPlace} (h : DataW.trod enc Try.prog W 0 (fun _ => true) true n T.uint64 cs = some y) (hl : cs.length = EU.w) : ∃ a, cs.map (conv2 W.heap.size) = EU.enc a ∧ True := by
  obtain ⟨c, rfl⟩ : ∃ c, cs = [c] := by
    match cs, hl with
    | [c], _ => exact ⟨_, rfl⟩
  obtain ⟨i, rfl, hw⟩ := dec_int Try.underlying48 h
  have hw : 0 ≤ i := by
    simp [Lit.wf, IntKind.min, IntKind.max, IntKind.signed, IntKind.bits] at hw
    omega
  refine ⟨i.toNat, ?_, trivial⟩
  show [Value.int .u64 i] = [.int .u64 (i.toNat : Int)]
  rw [Int.toNat_of_nonneg hw]

end Go.Proofs.Ytplblfcofplcmaa

/-
  The law StatsHolds: for every input it returns true, and its input reads as it did.
  Conditions: none. By an AI agent.
-/
namespace Go.Proofs.Ytplblfcofplcmaa.statsHolds
open Go.ChangeShapes Go.WideShapes Go.ChangeAt Go.RowKit
open Go.ChangeMaps (open_string shut_string)
set_option linter.unusedVariables false
theorem own : ownKnob Try.prog.godebug = none := by kernel_rfl
theorem laidOut : laidOutB Try.prog = true := by kernel_rfl
set_option maxRecDepth 100000 in
theorem lifted (os : Os) (started : os.Started) (H : Type) (enc : TypeId × Value → H) :
    ReturnsInHanded {} Try.checked os 5 .any (Rows.statsHoldsSpec.pre6 enc Try.prog Try.f5 Rows.statsHoldsRow.domain false) (Rows.statsHoldsSpec.post enc Try.prog Try.f5 false true false false) := by
  refine returnsInHanded_of_change_sized (C := Try.checked) own started (by kernel_rfl) Try.func5
    (ChangeSpec.witness6 (enc := enc) (C := Try.checked) false ⟨#[], #[.slice none 0 0, .slice none 0 0, .int .u8 0, .int .u8 0], []⟩ 8 (by kernel_rfl) (by kernel_rfl) (by kernel_rfl) (by kernel_rfl)) ?_
  intro W base args ds gs before hval0 hW hcnd hsz0 _
  have hsz : (DataW.weightsEach Try.prog (Try.f5.params.toList ++ Rows.statsHoldsSpec.plain.varTypes Try.prog) (ds ++ gs)).all (· ≤ reachBytes) = true := hsz0
  have hval : ∀ (j : Nat) t v, Try.f5.params[j]? = some t → args[j]? = some v → Value.okWide Try.prog W .any base t v := hval0
  have hW' := hW
  obtain ⟨p, q, hA0, hV, rfl, hfz, hnd⟩ := hW
  have hA : DataW.TrodAll enc Try.prog W 0 (fun _ => true) true Try.f5.params.toList args.toList ds p := hA0
  rw [Try.params5] at hA hval hsz
  obtain ⟨v0, vs0, d0, ds0, p0, q0, hargs, rfl, rfl, h0, r0⟩ := trodAll_cons hA
  obtain ⟨v1, vs1, d1, ds1, p1, q1, rfl, rfl, rfl, h1, r1⟩ := trodAll_cons r0
  obtain ⟨v2, vs2, d2, ds2, p2, q2, rfl, rfl, rfl, h2, r2⟩ := trodAll_cons r1
  obtain ⟨v3, vs3, d3, ds3, p3, q3, rfl, rfl, rfl, h3, r3⟩ := trodAll_cons r2
  obtain ⟨rfl, rfl, rfl⟩ := trodAll_nil r3
  obtain rfl : args = #[v0, v1, v2, v3] := by cases args; simp_all
  obtain ⟨rfl, rfl⟩ := trodVars_none hV
  have k0 := h0
  have lt0 : ∀ x ∈ p0, x.block < W.heap.size := by obtain ⟨m, hm⟩ := k0; exact DataW.trod_lt m _ _ _ hm
  obtain ⟨l0, rd0, all0, len0⟩ := Eng.open_rd2 (t := 42) (e' := 48) Try.underlying42 (by kernel_rfl) (fun hp cs n y h hl => decU hp h hl) (hval 0 42 v0 rfl rfl) k0
  have k1 := h1
  have lt1 : ∀ x ∈ p1, x.block < W.heap.size := by obtain ⟨m, hm⟩ := k1; exact DataW.trod_lt m _ _ _ hm
  obtain ⟨l1, rd1, all1, len1⟩ := Eng.open_rd2 (t := 43) (e' := 5) Try.underlying43 (by kernel_rfl) (fun hp cs n y h hl => decB hp h hl) (hval 1 43 v1 rfl rfl) k1
  obtain ⟨a2, rfl, rfl, rfl, w2⟩ := open_int Try.underlying5 (hval 2 5 v2 rfl rfl) h2
  obtain ⟨a3, rfl, rfl, rfl, w3⟩ := open_int Try.underlying5 (hval 3 5 v3 rfl rfl) h3
  refine (Eng.law_calls2 (args := #[v0, v1, .int .u8 a2, .int .u8 a3]) prims1_ok mixed (fun _ hg => absurd hg List.not_mem_nil) (run_StatsHolds W (Eng.convA2 W.heap.size v0) l0 rd0 all0 len0 (Eng.convA2 W.heap.size v1) l1 rd1 all1 len1 a2 w2 a3 w3)).mono fun e W' ⟨he, bel⟩ => ?_
  subst he
  exact ⟨_, rfl, _, _, _, [], _, [], hW', trodAll_mk1 (shut_bool Try.underlying4 _), (trodAll_cons_mk (Below.trod laidOut (by kernel_rfl) (of_decide_eq_true (by kernel_rfl)) k0 bel lt0) (trodAll_cons_mk (Below.trod laidOut (by kernel_rfl) (of_decide_eq_true (by kernel_rfl)) k1 bel lt1) (trodAll_cons_mk (shut_int Try.underlying5 w2) (trodAll_cons_mk (shut_int Try.underlying5 w3) trodAll_mk0)))), rfl, bel.frame _, fun h => by cases h⟩

theorem over : Rows.statsHoldsRow.holds Try.pinned (OpenSpec.ofChange Rows.statsHoldsSpec) :=
  OpenClaim.holds_of_wide 5 Try.f5 rfl rfl rfl rfl rfl rfl rfl ⟨rfl, rfl, rfl, rfl, rfl⟩ rfl rfl rfl rfl rfl (by kernel_rfl) Try.func5 (by kernel_rfl)
    (of_decide_eq_true (by kernel_rfl)) (by unfold Func.isWrapper; first | (rw [if_pos (by decide +kernel)]; kernel_rfl) | (rw [if_neg (by decide +kernel)]; exact ⟨rfl, rfl⟩))
    (fun os started H enc _ => lifted os started H enc)
theorem proved : Rows.StatsHoldsSaid := over
#print axioms proved
end Go.Proofs.Ytplblfcofplcmaa.statsHolds
namespace Go.Proofs.Ytplblfcofplcmaa
/-- The row, under a short name, for the claim. -/
theorem statsHolds_holds : Rows.StatsHoldsSaid := statsHolds.proved
end Go.Proofs.Ytplblfcofplcmaa
