/-
  11 texts in one (merge.py): A ShStatsBuckets DsStatsBuckets B Q Rl ShStatsFulls DsStatsFulls R T LawStatsFulls.
  Conditions: none. By an AI agent.
-/
import Derived.Test.YtplblfcofplcmaaQc3
import Derived.Test.YtplblfcofplcmaaChecked
import Derived.KernelRfl
import Derived.Test.YtplblfcofplcmaaRows
import Derived.WalkKit
import Derived.ProofKit
import Derived.OpenShut
import Derived.ShutString
import Derived.ChangeOld
import Derived.Below
import Derived.SizedLaws
import Derived.ChangeArms
import Derived.Carry

/-
  Chapter 26: the bucket of a number, the bounds of a bucket.
  Conditions: none. By an AI agent.
-/
set_option maxRecDepth 10000
set_option linter.unusedSimpArgs false
set_option linter.unusedVariables false
namespace Go.Proofs.Ytplblfcofplcmaa
open Go Eng

def lenN (x : Nat) : Nat := if x = 0 then 0 else Nat.log2 x + 1
theorem lenN_of {x b : Nat} (h1 : 2 ^ b ≤ x) (h2 : x < 2 ^ (b + 1)) : lenN x = b + 1 := by
  have hx : x ≠ 0 := by have := Nat.two_pow_pos b; omega
  unfold lenN
  rw [if_neg hx, (Nat.log2_eq_iff hx).2 ⟨h1, h2⟩]
theorem lenN_spec {x : Nat} (hx : x ≠ 0) : ∃ b, lenN x = b + 1 ∧ 2 ^ b ≤ x ∧ x < 2 ^ (b + 1) :=
  ⟨Nat.log2 x, by unfold lenN; rw [if_neg hx], ((Nat.log2_eq_iff hx).1 rfl).1, ((Nat.log2_eq_iff hx).1 rfl).2⟩
theorem lenN_div {x : Nat} (k : Nat) (h : 2 ^ k ≤ x) : lenN x = k + lenN (x / 2 ^ k) := by
  have hp := Nat.two_pow_pos k
  have hy : x / 2 ^ k ≠ 0 := by
    have : 1 ≤ x / 2 ^ k := (Nat.le_div_iff_mul_le hp).2 (by omega)
    omega
  obtain ⟨b, e, h1, h2⟩ := lenN_spec hy
  rw [e]
  have a1 : 2 ^ b * 2 ^ k ≤ x := (Nat.le_div_iff_mul_le hp).1 h1
  have a2 : x < 2 ^ (b + 1) * 2 ^ k := (Nat.div_lt_iff_lt_mul hp).1 h2
  rw [← Nat.pow_add] at a1 a2
  rw [show k + (b + 1) = (b + k) + 1 by omega]
  exact lenN_of a1 (by rw [show b + k + 1 = b + 1 + k by omega]; exact a2)

theorem tab8 : ∀ i : Fin 256, (bl (mk [0, 1, 2, 2, 3, 3, 3, 3, 4, 4, 4, 4, 4, 4, 4, 4, 5, 5, 5, 5, 5, 5, 5, 5, 5, 5, 5, 5, 5, 5, 5, 5, 6, 6, 6, 6, 6, 6, 6, 6, 6, 6, 6, 6, 6, 6, 6, 6, 6, 6, 6, 6, 6, 6, 6, 6, 6, 6, 6, 6, 6, 6, 6, 6, 7, 7, 7, 7, 7, 7, 7, 7, 7, 7, 7, 7, 7, 7, 7, 7, 7, 7, 7, 7, 7, 7, 7, 7, 7, 7, 7, 7, 7, 7, 7, 7, 7, 7, 7, 7, 7, 7, 7, 7, 7, 7, 7, 7, 7, 7, 7, 7, 7, 7, 7, 7, 7, 7, 7, 7, 7, 7, 7, 7, 7, 7, 7, 7, 8, 8, 8, 8, 8, 8, 8, 8, 8, 8, 8, 8, 8, 8, 8, 8, 8, 8, 8, 8, 8, 8, 8, 8, 8, 8, 8, 8, 8, 8, 8, 8, 8, 8, 8, 8, 8, 8, 8, 8, 8, 8, 8, 8, 8, 8, 8, 8, 8, 8, 8, 8, 8, 8, 8, 8, 8, 8, 8, 8, 8, 8, 8, 8, 8, 8, 8, 8, 8, 8, 8, 8, 8, 8, 8, 8, 8, 8, 8, 8, 8, 8, 8, 8, 8, 8, 8, 8, 8, 8, 8, 8, 8, 8, 8, 8, 8, 8, 8, 8, 8, 8, 8, 8, 8, 8, 8, 8, 8, 8, 8, 8, 8, 8, 8, 8, 8, 8, 8, 8, 8, 8, 8, 8, 8, 8, 8, 8]))[i.val]? = some (UInt8.ofNat (lenN i.val)) := by decide +kernel
theorem len8 : ∀ i : Fin 256, lenN i.val ≤ 8 := by decide +kernel
theorem idx_tab {s : ByteArray} {i : Int} (hs : ∀ i : Fin 256, (bl s)[i.val]? = some (UInt8.ofNat (lenN i.val))) (h : 0 ≤ i ∧ i < 256) : xindex Try.prog T.string (.string s) (.int .u8 i) = some (.int .u8 (lenN i.toNat)) := by
  have h0 := hs ⟨i.toNat, by omega⟩
  have h1 := len8 ⟨i.toNat, by omega⟩
  unfold xindex
  rw [show Try.prog.underlying T.string = some .string from Try.underlying9]
  simp only [h.1, if_true]
  rw [h0]
  simp only at h1
  simp only [Option.map_some, byteCell]
  congr 2
  rw [UInt8.toNat_ofNat']
  omega
theorem len8I {i : Int} (h : 0 ≤ i ∧ i < 256) : 0 ≤ (lenN i.toNat : Int) ∧ (lenN i.toNat : Int) ≤ 8 := by
  have h1 := len8 ⟨i.toNat, by omega⟩
  simp only at h1
  omega

theorem q_Len64 (x : Nat) (hx : x < 2199023255552) (H : AHeap) : CC F.math_bits_Len64 [.int .u64 (x : Int)] H = some (.int .i64 (lenN x), H) := by
  have ht := tab8
  have s32 : ∀ ox oy, xbin Try.prog .shr T.uint64 ox oy (.int .u64 (x : Int)) (.int .u64 32) = some (.int .u64 ((x : Int) / 4294967296)) := fun ox oy => shrP (by decide)
  have s16 : ∀ ox oy (y : Int), xbin Try.prog .shr T.uint64 ox oy (.int .u64 y) (.int .u64 16) = some (.int .u64 (y / 65536)) := fun ox oy y => shrP (by decide)
  have s8 : ∀ ox oy (y : Int), xbin Try.prog .shr T.uint64 ox oy (.int .u64 y) (.int .u64 8) = some (.int .u64 (y / 256)) := fun ox oy y => shrP (by decide)
  have cu : ∀ (y : Int) H, 0 ≤ y ∧ y < 256 → xconv Try.prog T.uint64 T.uint8 (.int .u64 y) H = some (.int .u8 y, H) := fun y H hy => by rw [show xconv Try.prog T.uint64 T.uint8 (.int .u64 y) H = _ from xconv_int Try.underlying48 Try.underlying5, wrap_u8 hy]
  have ci : ∀ (y : Int) H, 0 ≤ y ∧ y < 256 → xconv Try.prog T.uint8 T.int (.int .u8 y) H = some (.int .i64 y, H) := fun y H hy => by rw [show xconv Try.prog T.uint8 T.int (.int .u8 y) H = _ from xconv_int Try.underlying5 Try.underlying3, wrap_i64 (by omega)]
  by_cases h1 : 4294967296 ≤ x
  · have h1' : (4294967296 : Int) ≤ (x : Int) := by omega
    have h2' : ¬ (65536 : Int) ≤ (x : Int) / 4294967296 := by omega
    obtain ⟨R, hR⟩ : ∃ R, lenN x = R := ⟨_, rfl⟩
    have hR2 := hR; rw [lenN_div 32 h1] at hR2
    rw [hR]
    by_cases h3 : 256 ≤ x / 4294967296
    · have h3' : (256 : Int) ≤ (x : Int) / 4294967296 := by omega
      have hy : 0 ≤ (x : Int) / 4294967296 / 256 ∧ (x : Int) / 4294967296 / 256 < 256 := by omega
      have hz := len8I hy
      have e : lenN (x / 2 ^ 32) = 8 + lenN ((x : Int) / 4294967296 / 256).toNat := by rw [lenN_div 8 h3]; rfl
      apply pure_of _ (d_math_bits_Len64 _ H) rfl
      rotate_left 2
      · simp (disch := first | with_reducible rfl | assumption | omega | rfl | (simp only [go_sem]; first | done | omega)) only [go_sem, ↓reduceIte, reduceCtorEq, Nat.reduceEqDiff, Nat.reduceAdd, Nat.reduceSub, Nat.reduceMul, Nat.reduceDiv, Nat.reduceMod, Nat.reduceLeDiff, Nat.reduceLT, Nat.reduceBEq, Int.reduceEq, Int.reduceBEq, Int.reduceBNe, Int.reduceLT, Int.reduceLE, Int.reduceAdd, Int.reduceSub, Int.reduceNeg, Int.reduceToNat, Int.reducePow, Nat.reducePow, Int.reduceMul, Int.reduceDiv, ↓s_math_bits_Len64, s32, s8, cu, ci, idx_tab ht hy, h1', h2', h3', hy, hz]
        have hE : (R : Int) = 40 + (lenN ((x : Int) / 4294967296 / 256).toNat : Int) := by rw [e] at hR2; omega
        rw [hE]
      · (repeat (first | exact Fr.refl _ | refine Fr.push ?_ _ | refine Fr.set ?_ _ _ (by intro h; first | omega | (simp only [go_sem] at h; omega))))
    · have h3' : ¬ (256 : Int) ≤ (x : Int) / 4294967296 := by omega
      have hy : 0 ≤ (x : Int) / 4294967296 ∧ (x : Int) / 4294967296 < 256 := by omega
      have hz := len8I hy
      have e : lenN (x / 2 ^ 32) = lenN ((x : Int) / 4294967296).toNat := by congr 1
      apply pure_of _ (d_math_bits_Len64 _ H) rfl
      rotate_left 2
      · simp (disch := first | with_reducible rfl | assumption | omega | rfl | (simp only [go_sem]; first | done | omega)) only [go_sem, ↓reduceIte, reduceCtorEq, Nat.reduceEqDiff, Nat.reduceAdd, Nat.reduceSub, Nat.reduceMul, Nat.reduceDiv, Nat.reduceMod, Nat.reduceLeDiff, Nat.reduceLT, Nat.reduceBEq, Int.reduceEq, Int.reduceBEq, Int.reduceBNe, Int.reduceLT, Int.reduceLE, Int.reduceAdd, Int.reduceSub, Int.reduceNeg, Int.reduceToNat, Int.reducePow, Nat.reducePow, Int.reduceMul, Int.reduceDiv, ↓s_math_bits_Len64, s32, s8, cu, ci, idx_tab ht hy, h1', h2', h3', hy, hz]
        have hE : (R : Int) = 32 + (lenN ((x : Int) / 4294967296).toNat : Int) := by rw [e] at hR2; omega
        rw [hE]
      · (repeat (first | exact Fr.refl _ | refine Fr.push ?_ _ | refine Fr.set ?_ _ _ (by intro h; first | omega | (simp only [go_sem] at h; omega))))
  · have h1' : ¬ (4294967296 : Int) ≤ (x : Int) := by omega
    by_cases h2 : 65536 ≤ x
    · have h2' : (65536 : Int) ≤ (x : Int) := by omega
      obtain ⟨R, hR⟩ : ∃ R, lenN x = R := ⟨_, rfl⟩
      have hR2 := hR; rw [lenN_div 16 h2] at hR2
      rw [hR]
      by_cases h3 : 256 ≤ x / 65536
      · have h3' : (256 : Int) ≤ (x : Int) / 65536 := by omega
        have hy : 0 ≤ (x : Int) / 65536 / 256 ∧ (x : Int) / 65536 / 256 < 256 := by omega
        have hz := len8I hy
        have e : lenN (x / 2 ^ 16) = 8 + lenN ((x : Int) / 65536 / 256).toNat := by rw [lenN_div 8 h3]; rfl
        apply pure_of _ (d_math_bits_Len64 _ H) rfl
        rotate_left 2
        · simp (disch := first | with_reducible rfl | assumption | omega | rfl | (simp only [go_sem]; first | done | omega)) only [go_sem, ↓reduceIte, reduceCtorEq, Nat.reduceEqDiff, Nat.reduceAdd, Nat.reduceSub, Nat.reduceMul, Nat.reduceDiv, Nat.reduceMod, Nat.reduceLeDiff, Nat.reduceLT, Nat.reduceBEq, Int.reduceEq, Int.reduceBEq, Int.reduceBNe, Int.reduceLT, Int.reduceLE, Int.reduceAdd, Int.reduceSub, Int.reduceNeg, Int.reduceToNat, Int.reducePow, Nat.reducePow, Int.reduceMul, Int.reduceDiv, ↓s_math_bits_Len64, s16, s8, cu, ci, idx_tab ht hy, h1', h2', h3', hy, hz]
          have hE : (R : Int) = 24 + (lenN ((x : Int) / 65536 / 256).toNat : Int) := by rw [e] at hR2; omega
          rw [hE]
        · (repeat (first | exact Fr.refl _ | refine Fr.push ?_ _ | refine Fr.set ?_ _ _ (by intro h; first | omega | (simp only [go_sem] at h; omega))))
      · have h3' : ¬ (256 : Int) ≤ (x : Int) / 65536 := by omega
        have hy : 0 ≤ (x : Int) / 65536 ∧ (x : Int) / 65536 < 256 := by omega
        have hz := len8I hy
        have e : lenN (x / 2 ^ 16) = lenN ((x : Int) / 65536).toNat := by congr 1
        apply pure_of _ (d_math_bits_Len64 _ H) rfl
        rotate_left 2
        · simp (disch := first | with_reducible rfl | assumption | omega | rfl | (simp only [go_sem]; first | done | omega)) only [go_sem, ↓reduceIte, reduceCtorEq, Nat.reduceEqDiff, Nat.reduceAdd, Nat.reduceSub, Nat.reduceMul, Nat.reduceDiv, Nat.reduceMod, Nat.reduceLeDiff, Nat.reduceLT, Nat.reduceBEq, Int.reduceEq, Int.reduceBEq, Int.reduceBNe, Int.reduceLT, Int.reduceLE, Int.reduceAdd, Int.reduceSub, Int.reduceNeg, Int.reduceToNat, Int.reducePow, Nat.reducePow, Int.reduceMul, Int.reduceDiv, ↓s_math_bits_Len64, s16, s8, cu, ci, idx_tab ht hy, h1', h2', h3', hy, hz]
          have hE : (R : Int) = 16 + (lenN ((x : Int) / 65536).toNat : Int) := by rw [e] at hR2; omega
          rw [hE]
        · (repeat (first | exact Fr.refl _ | refine Fr.push ?_ _ | refine Fr.set ?_ _ _ (by intro h; first | omega | (simp only [go_sem] at h; omega))))
    · have h2' : ¬ (65536 : Int) ≤ (x : Int) := by omega
      by_cases h3 : 256 ≤ x
      · have h3' : (256 : Int) ≤ (x : Int) := by omega
        have hy : 0 ≤ (x : Int) / 256 ∧ (x : Int) / 256 < 256 := by omega
        have hz := len8I hy
        have e : lenN x = 8 + lenN ((x : Int) / 256).toNat := by rw [lenN_div 8 h3]; rfl
        apply pure_of _ (d_math_bits_Len64 _ H) rfl
        rotate_left 2
        · simp (disch := first | with_reducible rfl | assumption | omega | rfl | (simp only [go_sem]; first | done | omega)) only [go_sem, ↓reduceIte, reduceCtorEq, Nat.reduceEqDiff, Nat.reduceAdd, Nat.reduceSub, Nat.reduceMul, Nat.reduceDiv, Nat.reduceMod, Nat.reduceLeDiff, Nat.reduceLT, Nat.reduceBEq, Int.reduceEq, Int.reduceBEq, Int.reduceBNe, Int.reduceLT, Int.reduceLE, Int.reduceAdd, Int.reduceSub, Int.reduceNeg, Int.reduceToNat, Int.reducePow, Nat.reducePow, Int.reduceMul, Int.reduceDiv, ↓s_math_bits_Len64, s8, cu, ci, idx_tab ht hy, h1', h2', h3', hy, hz]
          have hE : ((lenN x : Nat) : Int) = 8 + (lenN ((x : Int) / 256).toNat : Int) := by rw [e]; omega
          rw [hE]
        · (repeat (first | exact Fr.refl _ | refine Fr.push ?_ _ | refine Fr.set ?_ _ _ (by intro h; first | omega | (simp only [go_sem] at h; omega))))
      · have h3' : ¬ (256 : Int) ≤ (x : Int) := by omega
        have hy : 0 ≤ (x : Int) ∧ (x : Int) < 256 := by omega
        have hz := len8I hy
        have e : lenN x = lenN (x : Int).toNat := by congr 1
        apply pure_of _ (d_math_bits_Len64 _ H) rfl
        rotate_left 2
        · simp (disch := first | with_reducible rfl | assumption | omega | rfl | (simp only [go_sem]; first | done | omega)) only [go_sem, ↓reduceIte, reduceCtorEq, Nat.reduceEqDiff, Nat.reduceAdd, Nat.reduceSub, Nat.reduceMul, Nat.reduceDiv, Nat.reduceMod, Nat.reduceLeDiff, Nat.reduceLT, Nat.reduceBEq, Int.reduceEq, Int.reduceBEq, Int.reduceBNe, Int.reduceLT, Int.reduceLE, Int.reduceAdd, Int.reduceSub, Int.reduceNeg, Int.reduceToNat, Int.reducePow, Nat.reducePow, Int.reduceMul, Int.reduceDiv, ↓s_math_bits_Len64, cu, ci, idx_tab ht hy, h1', h2', h3', hy, hz, Int.zero_add, Int.toNat_natCast]
          rfl
        · (repeat (first | exact Fr.refl _ | refine Fr.push ?_ _ | refine Fr.set ?_ _ _ (by intro h; first | omega | (simp only [go_sem] at h; omega))))

theorem q_Len (x : Nat) (hx : x < 2199023255552) (H : AHeap) : CC F.math_bits_Len [.int .u64 (x : Int)] H = some (.int .i64 (lenN x), H) := by
  apply pure_of _ (d_math_bits_Len _ H) rfl
  rotate_left 2
  · simp (disch := first | with_reducible rfl | assumption | omega | rfl | (simp only [go_sem]; first | done | omega)) only [go_sem, ↓reduceIte, reduceCtorEq, Nat.reduceEqDiff, Nat.reduceAdd, Nat.reduceSub, Nat.reduceMul, Nat.reduceDiv, Nat.reduceMod, Nat.reduceLeDiff, Nat.reduceLT, Nat.reduceBEq, Int.reduceEq, Int.reduceBEq, Int.reduceBNe, Int.reduceLT, Int.reduceLE, Int.reduceAdd, Int.reduceSub, Int.reduceNeg, Int.reduceToNat, Int.reducePow, Nat.reducePow, Int.reduceMul, Int.reduceDiv, ↓s_math_bits_Len, enterK_eq (q_Len64 x hx H)]
    rfl
  · (repeat (first | exact Fr.refl _ | refine Fr.push ?_ _ | refine Fr.set ?_ _ _ (by intro h; first | omega | (simp only [go_sem] at h; omega))))

theorem q_Bucket (x : Nat) (hx : x ≤ 1099511627776) (H : AHeap) : CC F.stats_Bucket [.int .i64 (x : Int)] H = some (.tuple ⟨[.int .i64 (lenN x), .int .i64 0]⟩, H) := by
  have h1 : ¬ (x : Int) < 0 := by omega
  have h2 : ¬ (1099511627776 : Int) < (x : Int) := by omega
  have cu : ∀ H, xconv Try.prog T.int T.uint (.int .i64 (x : Int)) H = some (.int .u64 (x : Int), H) := fun H => by rw [show xconv Try.prog T.int T.uint (.int .i64 (x : Int)) H = _ from xconv_int Try.underlying3 Try.underlying94, wrap_u64 (by omega)]
  apply pure_of _ (d_stats_Bucket _ H) rfl
  rotate_left 2
  · simp (disch := first | with_reducible rfl | assumption | omega | rfl | (simp only [go_sem]; first | done | omega)) only [go_sem, ↓reduceIte, reduceCtorEq, Nat.reduceEqDiff, Nat.reduceAdd, Nat.reduceSub, Nat.reduceMul, Nat.reduceDiv, Nat.reduceMod, Nat.reduceLeDiff, Nat.reduceLT, Nat.reduceBEq, Int.reduceEq, Int.reduceBEq, Int.reduceBNe, Int.reduceLT, Int.reduceLE, Int.reduceAdd, Int.reduceSub, Int.reduceNeg, Int.reduceToNat, Int.reducePow, Nat.reducePow, Int.reduceMul, Int.reduceDiv, ↓s_stats_Bucket, h1, h2, cu, enterK_eq (q_Len x (by omega) H)]
    rfl
  · (repeat (first | exact Fr.refl _ | refine Fr.push ?_ _ | refine Fr.set ?_ _ _ (by intro h; first | omega | (simp only [go_sem] at h; omega))))
theorem q_Bucket_bad (n : Int) (h : n < 0 ∨ 1099511627776 < n) (H : AHeap) : CC F.stats_Bucket [.int .i64 n] H = some (.tuple ⟨[.int .i64 0, .int .i64 2]⟩, H) := by
  by_cases h1 : n < 0
  · apply pure_of _ (d_stats_Bucket _ H) rfl
    rotate_left 2
    · simp (disch := first | with_reducible rfl | assumption | omega | rfl | (simp only [go_sem]; first | done | omega)) only [go_sem, ↓reduceIte, reduceCtorEq, Nat.reduceEqDiff, Nat.reduceAdd, Nat.reduceSub, Nat.reduceMul, Nat.reduceDiv, Nat.reduceMod, Nat.reduceLeDiff, Nat.reduceLT, Nat.reduceBEq, Int.reduceEq, Int.reduceBEq, Int.reduceBNe, Int.reduceLT, Int.reduceLE, Int.reduceAdd, Int.reduceSub, Int.reduceNeg, Int.reduceToNat, Int.reducePow, Nat.reducePow, Int.reduceMul, Int.reduceDiv, ↓s_stats_Bucket, h1]
      rfl
    · (repeat (first | exact Fr.refl _ | refine Fr.push ?_ _ | refine Fr.set ?_ _ _ (by intro h; first | omega | (simp only [go_sem] at h; omega))))
  · have h2 : 1099511627776 < n := by omega
    apply pure_of _ (d_stats_Bucket _ H) rfl
    rotate_left 2
    · simp (disch := first | with_reducible rfl | assumption | omega | rfl | (simp only [go_sem]; first | done | omega)) only [go_sem, ↓reduceIte, reduceCtorEq, Nat.reduceEqDiff, Nat.reduceAdd, Nat.reduceSub, Nat.reduceMul, Nat.reduceDiv, Nat.reduceMod, Nat.reduceLeDiff, Nat.reduceLT, Nat.reduceBEq, Int.reduceEq, Int.reduceBEq, Int.reduceBNe, Int.reduceLT, Int.reduceLE, Int.reduceAdd, Int.reduceSub, Int.reduceNeg, Int.reduceToNat, Int.reducePow, Nat.reducePow, Int.reduceMul, Int.reduceDiv, ↓s_stats_Bucket, h1, h2]
      rfl
    · (repeat (first | exact Fr.refl _ | refine Fr.push ?_ _ | refine Fr.set ?_ _ _ (by intro h; first | omega | (simp only [go_sem] at h; omega))))

def loN (b : Nat) : Nat := if b = 0 then 0 else 2 ^ (b - 1)
def hiN (b : Nat) : Nat := if b = 0 then 0 else min (2 ^ b - 1) 1099511627776

theorem pow41 {b : Nat} (h : b ≤ 41) : 2 ^ b ≤ 2199023255552 := Nat.pow_le_pow_right (by decide) h
theorem shl1 {b : Nat} (h : b ≤ 41) {ox oy : Operand} {i : Int} (hi : i = (b : Int)) : xbin Try.prog .shl T.int ox oy (.int .i64 1) (.int .i64 i) = some (.int .i64 ((2 ^ b : Nat) : Int)) := by
  subst hi
  have := pow41 h
  rw [shlP (by simp only [IntKind.bits]; omega)]
  have e : (1 : Int) * 2 ^ (b : Int).toNat = ((2 ^ b : Nat) : Int) := by rw [Int.one_mul, Int.toNat_natCast, Int.natCast_pow]; rfl
  rw [e]
  generalize 2 ^ b = q at *
  rw [wrap_i64 (by omega)]

theorem q_Bounds (b : Nat) (hb : b ≤ 41) (H : AHeap) : CC F.stats_Bounds [.int .i64 (b : Int)] H = some (.tuple ⟨[.int .i64 (loN b), .int .i64 (hiN b), .int .i64 0]⟩, H) := by
  have h1 : ¬ (b : Int) < 0 := by omega
  have h2 : ¬ (42 : Int) ≤ (b : Int) := by omega
  by_cases h0 : b = 0
  · subst h0
    apply pure_of _ (d_stats_Bounds _ H) rfl
    rotate_left 2
    · simp (disch := first | with_reducible rfl | assumption | omega | rfl | (simp only [go_sem]; first | done | omega)) only [go_sem, ↓reduceIte, reduceCtorEq, Nat.reduceEqDiff, Nat.reduceAdd, Nat.reduceSub, Nat.reduceMul, Nat.reduceDiv, Nat.reduceMod, Nat.reduceLeDiff, Nat.reduceLT, Nat.reduceBEq, Int.reduceEq, Int.reduceBEq, Int.reduceBNe, Int.reduceLT, Int.reduceLE, Int.reduceAdd, Int.reduceSub, Int.reduceNeg, Int.reduceToNat, Int.reducePow, Nat.reducePow, Int.reduceMul, Int.reduceDiv, ↓s_stats_Bounds, Int.natCast_zero, Int.lt_irrefl, decide_false]
      rfl
    · (repeat (first | exact Fr.refl _ | refine Fr.push ?_ _ | refine Fr.set ?_ _ _ (by intro h; first | omega | (simp only [go_sem] at h; omega))))
  · have h3 : ¬ (b : Int) = 0 := by omega
    have e1 := fun ox oy => shl1 (b := b - 1) (by omega) (ox := ox) (oy := oy) (i := (b : Int) - 1) (by omega)
    have e2 := fun ox oy => shl1 (b := b) hb (ox := ox) (oy := oy) rfl
    have p := pow41 hb
    have p0 := Nat.two_pow_pos b
    have hh : (hiN b : Int) = min (((2 ^ b : Nat) : Int) - 1) 1099511627776 := by unfold hiN; rw [if_neg h0]; omega
    have hl : (loN b : Int) = ((2 ^ (b - 1) : Nat) : Int) := by unfold loN; rw [if_neg h0]
    rw [hh, hl]
    generalize 2 ^ b = p2 at *
    apply pure_of _ (d_stats_Bounds _ H) rfl
    rotate_left 2
    · simp (disch := first | with_reducible rfl | assumption | omega | rfl | (simp only [go_sem]; first | done | omega)) only [go_sem, ↓reduceIte, reduceCtorEq, Nat.reduceEqDiff, Nat.reduceAdd, Nat.reduceSub, Nat.reduceMul, Nat.reduceDiv, Nat.reduceMod, Nat.reduceLeDiff, Nat.reduceLT, Nat.reduceBEq, Int.reduceEq, Int.reduceBEq, Int.reduceBNe, Int.reduceLT, Int.reduceLE, Int.reduceAdd, Int.reduceSub, Int.reduceNeg, Int.reduceToNat, Int.reducePow, Nat.reducePow, Int.reduceMul, Int.reduceDiv, ↓s_stats_Bounds, h1, h2, h3, e1, e2]
      rfl
    · (repeat (first | exact Fr.refl _ | refine Fr.push ?_ _ | refine Fr.set ?_ _ _ (by intro h; first | omega | (simp only [go_sem] at h; omega))))
theorem q_Bounds_bad (n : Int) (h : n < 0 ∨ 41 < n) (H : AHeap) : CC F.stats_Bounds [.int .i64 n] H = some (.tuple ⟨[.int .i64 0, .int .i64 0, .int .i64 2]⟩, H) := by
  by_cases h1 : n < 0
  · apply pure_of _ (d_stats_Bounds _ H) rfl
    rotate_left 2
    · simp (disch := first | with_reducible rfl | assumption | omega | rfl | (simp only [go_sem]; first | done | omega)) only [go_sem, ↓reduceIte, reduceCtorEq, Nat.reduceEqDiff, Nat.reduceAdd, Nat.reduceSub, Nat.reduceMul, Nat.reduceDiv, Nat.reduceMod, Nat.reduceLeDiff, Nat.reduceLT, Nat.reduceBEq, Int.reduceEq, Int.reduceBEq, Int.reduceBNe, Int.reduceLT, Int.reduceLE, Int.reduceAdd, Int.reduceSub, Int.reduceNeg, Int.reduceToNat, Int.reducePow, Nat.reducePow, Int.reduceMul, Int.reduceDiv, ↓s_stats_Bounds, h1]
      rfl
    · (repeat (first | exact Fr.refl _ | refine Fr.push ?_ _ | refine Fr.set ?_ _ _ (by intro h; first | omega | (simp only [go_sem] at h; omega))))
  · have h2 : 42 ≤ n := by omega
    apply pure_of _ (d_stats_Bounds _ H) rfl
    rotate_left 2
    · simp (disch := first | with_reducible rfl | assumption | omega | rfl | (simp only [go_sem]; first | done | omega)) only [go_sem, ↓reduceIte, reduceCtorEq, Nat.reduceEqDiff, Nat.reduceAdd, Nat.reduceSub, Nat.reduceMul, Nat.reduceDiv, Nat.reduceMod, Nat.reduceLeDiff, Nat.reduceLT, Nat.reduceBEq, Int.reduceEq, Int.reduceBEq, Int.reduceBNe, Int.reduceLT, Int.reduceLE, Int.reduceAdd, Int.reduceSub, Int.reduceNeg, Int.reduceToNat, Int.reducePow, Nat.reducePow, Int.reduceMul, Int.reduceDiv, ↓s_stats_Bounds, h1, h2]
      rfl
    · (repeat (first | exact Fr.refl _ | refine Fr.push ?_ _ | refine Fr.set ?_ _ _ (by intro h; first | omega | (simp only [go_sem] at h; omega))))

/-! ### the reference's -/
theorem l_rBounds (b : Nat) (hb : b ≤ 41) (H : AHeap) (k : K) : ∀ (d i n : Nat), i + d = b → 1 ≤ i → n * 2 ^ d ≤ 2199023255552 →
    l_ref26_Bounds_0 (.int .i64 (b : Int)) (.int .i64 (n : Int)) (.int .i64 (i : Int)) H (blkK [4] 0 k) = k .normal [(4, .int .i64 ((n * 2 ^ d : Nat) : Int))] H
  | 0, i, n, hi, h1, hn => by
    have h : ¬ (i : Int) < (b : Int) := by omega
    rw [r_ref26_Bounds_0]
    simp (disch := first | with_reducible rfl | assumption | omega | rfl | (simp only [go_sem]; first | done | omega)) only [go_sem, ↓reduceIte, reduceCtorEq, Nat.reduceEqDiff, Nat.reduceAdd, Nat.reduceSub, Nat.reduceMul, Nat.reduceDiv, Nat.reduceMod, Nat.reduceLeDiff, Nat.reduceLT, Nat.reduceBEq, Int.reduceEq, Int.reduceBEq, Int.reduceBNe, Int.reduceLT, Int.reduceLE, Int.reduceAdd, Int.reduceSub, Int.reduceNeg, Int.reduceToNat, Int.reducePow, Nat.reducePow, Int.reduceMul, Int.reduceDiv, ↓s_ref26_Bounds_b0, h, Nat.pow_zero, Nat.mul_one]
  | d + 1, i, n, hi, h1, hn => by
    have h : (i : Int) < (b : Int) := by omega
    have e : n * 2 ^ (d + 1) = 2 * n * 2 ^ d := by rw [Nat.pow_succ, Nat.mul_comm 2 n, Nat.mul_assoc, Nat.mul_comm 2]
    have hn2 : 2 * n ≤ 2199023255552 := Nat.le_trans (Nat.le_mul_of_pos_right _ (Nat.two_pow_pos d)) (by rw [← e]; exact hn)
    have ih := l_rBounds b hb H k d (i + 1) (2 * n) (by omega) (by omega) (by rw [← e]; exact hn)
    rw [← e] at ih
    rw [Int.natCast_add, Int.natCast_mul] at ih
    rw [r_ref26_Bounds_0]
    simp (disch := first | with_reducible rfl | assumption | omega | rfl | (simp only [go_sem]; first | done | omega)) only [go_sem, ↓reduceIte, reduceCtorEq, Nat.reduceEqDiff, Nat.reduceAdd, Nat.reduceSub, Nat.reduceMul, Nat.reduceDiv, Nat.reduceMod, Nat.reduceLeDiff, Nat.reduceLT, Nat.reduceBEq, Int.reduceEq, Int.reduceBEq, Int.reduceBNe, Int.reduceLT, Int.reduceLE, Int.reduceAdd, Int.reduceSub, Int.reduceNeg, Int.reduceToNat, Int.reducePow, Nat.reducePow, Int.reduceMul, Int.reduceDiv, ↓s_ref26_Bounds_b0, h]
    exact ih
theorem q_rBounds (b : Nat) (hb : b ≤ 41) (H : AHeap) : CC F.ref26_Bounds [.int .i64 (b : Int)] H = some (.tuple ⟨[.int .i64 (loN b), .int .i64 (hiN b)]⟩, H) := by
  by_cases h0 : b = 0
  · subst h0
    apply pure_of _ (d_ref26_Bounds _ H) rfl
    rotate_left 2
    · simp (disch := first | with_reducible rfl | assumption | omega | rfl | (simp only [go_sem]; first | done | omega)) only [go_sem, ↓reduceIte, reduceCtorEq, Nat.reduceEqDiff, Nat.reduceAdd, Nat.reduceSub, Nat.reduceMul, Nat.reduceDiv, Nat.reduceMod, Nat.reduceLeDiff, Nat.reduceLT, Nat.reduceBEq, Int.reduceEq, Int.reduceBEq, Int.reduceBNe, Int.reduceLT, Int.reduceLE, Int.reduceAdd, Int.reduceSub, Int.reduceNeg, Int.reduceToNat, Int.reducePow, Nat.reducePow, Int.reduceMul, Int.reduceDiv, ↓s_ref26_Bounds, Int.natCast_zero]
      rfl
    · (repeat (first | exact Fr.refl _ | refine Fr.push ?_ _ | refine Fr.set ?_ _ _ (by intro h; first | omega | (simp only [go_sem] at h; omega))))
  · have h3 : ¬ (b : Int) = 0 := by omega
    have p := pow41 (b := b - 1) (by omega)
    have hl := l_rBounds b hb H
    have hp : 2 ^ b = 2 * 2 ^ (b - 1) := by rw [← Nat.pow_succ']; congr 1; omega
    have hh : (hiN b : Int) = min (2 * ((2 ^ (b - 1) : Nat) : Int) - 1) 1099511627776 := by
      have := Nat.two_pow_pos (b - 1)
      unfold hiN
      rw [if_neg h0, hp]
      clear hl
      generalize 2 ^ (b - 1) = q at *
      omega
    have hl' : (loN b : Int) = ((2 ^ (b - 1) : Nat) : Int) := by unfold loN; rw [if_neg h0]
    have hlp := pow41 hb
    rw [hh, hl']
    have hL : ∀ k, l_ref26_Bounds_0 (.int .i64 (b : Int)) (.int .i64 1) (.int .i64 1) H (blkK [4] 0 k) = k .normal [(4, .int .i64 ((2 ^ (b - 1) : Nat) : Int))] H := fun k => by
      have := l_rBounds b hb H k (b - 1) 1 1 (by omega) (Nat.le_refl _) (by omega)
      rw [Nat.one_mul] at this
      exact this
    generalize 2 ^ (b - 1) = p2 at *
    apply pure_of _ (d_ref26_Bounds _ H) rfl
    rotate_left 2
    · simp (disch := first | with_reducible rfl | assumption | omega | rfl | (simp only [go_sem]; first | done | omega)) only [go_sem, ↓reduceIte, reduceCtorEq, Nat.reduceEqDiff, Nat.reduceAdd, Nat.reduceSub, Nat.reduceMul, Nat.reduceDiv, Nat.reduceMod, Nat.reduceLeDiff, Nat.reduceLT, Nat.reduceBEq, Int.reduceEq, Int.reduceBEq, Int.reduceBNe, Int.reduceLT, Int.reduceLE, Int.reduceAdd, Int.reduceSub, Int.reduceNeg, Int.reduceToNat, Int.reducePow, Nat.reducePow, Int.reduceMul, Int.reduceDiv, ↓s_ref26_Bounds, h3, hL]
      rfl
    · (repeat (first | exact Fr.refl _ | refine Fr.push ?_ _ | refine Fr.set ?_ _ _ (by intro h; first | omega | (simp only [go_sem] at h; omega))))

theorem in_bucket {x b : Nat} (hx : x ≤ 1099511627776) (hb : b ≤ 41) : (loN b ≤ x ∧ x ≤ hiN b) ↔ lenN x = b := by
  unfold loN hiN
  by_cases h0 : b = 0
  · subst h0
    simp only [if_true]
    constructor
    · intro h
      have : x = 0 := by omega
      subst this; rfl
    · intro h
      unfold lenN at h
      by_cases hx0 : x = 0
      · omega
      · rw [if_neg hx0] at h; omega
  · rw [if_neg h0, if_neg h0]
    obtain ⟨c, rfl⟩ : ∃ c, b = c + 1 := ⟨b - 1, by omega⟩
    rw [Nat.add_sub_cancel]
    have hp := Nat.two_pow_pos (c + 1)
    constructor
    · rintro ⟨h1, h2⟩
      exact lenN_of h1 (by omega)
    · intro h
      by_cases hx0 : x = 0
      · subst hx0; cases h
      · obtain ⟨c', e, h1, h2⟩ := lenN_spec hx0
        obtain rfl : c = c' := by omega
        exact ⟨h1, by omega⟩
theorem lenN_le {x : Nat} (hx : x ≤ 1099511627776) : lenN x ≤ 41 := by
  by_cases hx0 : x = 0
  · subst hx0; decide
  · obtain ⟨c, e, h1, h2⟩ := lenN_spec hx0
    have : c < 41 := by
      by_cases h : c < 41
      · exact h
      · exfalso
        have := Nat.pow_le_pow_right (n := 2) (by decide) (show 41 ≤ c by omega)
        omega
    omega

theorem l_rBucket (x : Nat) (hx : x ≤ 1099511627776) (H : AHeap) (k : K) : ∀ (d b : Nat), b + d = lenN x →
    l_ref26_Bucket_0 (.int .i64 (x : Int)) (.int .i64 (b : Int)) H (blkK [] 0 (seqK (fun _ h2 => k .ret [(2, .int .i64 (-1))] h2) k)) = k .ret [(2, .int .i64 (lenN x))] H
  | 0, b, hd => by
    have hb : b ≤ 41 := by have := lenN_le hx; omega
    have h : (b : Int) < 42 := by omega
    have hin := (in_bucket hx hb).2 (by omega)
    have h1 : ((loN b : Nat) : Int) ≤ (x : Int) := by omega
    have h2 : (x : Int) ≤ ((hiN b : Nat) : Int) := by omega
    have e : lenN x = b := by omega
    rw [r_ref26_Bucket_0, e]
    simp (disch := first | with_reducible rfl | assumption | omega | rfl | (simp only [go_sem]; first | done | omega)) only [go_sem, ↓reduceIte, reduceCtorEq, Nat.reduceEqDiff, Nat.reduceAdd, Nat.reduceSub, Nat.reduceMul, Nat.reduceDiv, Nat.reduceMod, Nat.reduceLeDiff, Nat.reduceLT, Nat.reduceBEq, Int.reduceEq, Int.reduceBEq, Int.reduceBNe, Int.reduceLT, Int.reduceLE, Int.reduceAdd, Int.reduceSub, Int.reduceNeg, Int.reduceToNat, Int.reducePow, Nat.reducePow, Int.reduceMul, Int.reduceDiv, ↓s_ref26_Bucket_b0, h, enterK_eq (q_rBounds b hb H), h1, h2]
  | d + 1, b, hd => by
    have hb : b ≤ 41 := by have := lenN_le hx; omega
    have h : (b : Int) < 42 := by omega
    have ih := l_rBucket x hx H k d (b + 1) (by omega)
    rw [Int.natCast_add] at ih
    have hin : ¬ (loN b ≤ x ∧ x ≤ hiN b) := fun h => by have := (in_bucket hx hb).1 h; omega
    rw [r_ref26_Bucket_0]
    by_cases h1 : loN b ≤ x
    · have h1' : ((loN b : Nat) : Int) ≤ (x : Int) := by omega
      have h2' : ¬ (x : Int) ≤ ((hiN b : Nat) : Int) := by omega
      simp (disch := first | with_reducible rfl | assumption | omega | rfl | (simp only [go_sem]; first | done | omega)) only [go_sem, ↓reduceIte, reduceCtorEq, Nat.reduceEqDiff, Nat.reduceAdd, Nat.reduceSub, Nat.reduceMul, Nat.reduceDiv, Nat.reduceMod, Nat.reduceLeDiff, Nat.reduceLT, Nat.reduceBEq, Int.reduceEq, Int.reduceBEq, Int.reduceBNe, Int.reduceLT, Int.reduceLE, Int.reduceAdd, Int.reduceSub, Int.reduceNeg, Int.reduceToNat, Int.reducePow, Nat.reducePow, Int.reduceMul, Int.reduceDiv, ↓s_ref26_Bucket_b0, h, enterK_eq (q_rBounds b hb H), h1', h2']
      exact ih
    · have h1' : ¬ ((loN b : Nat) : Int) ≤ (x : Int) := by omega
      simp (disch := first | with_reducible rfl | assumption | omega | rfl | (simp only [go_sem]; first | done | omega)) only [go_sem, ↓reduceIte, reduceCtorEq, Nat.reduceEqDiff, Nat.reduceAdd, Nat.reduceSub, Nat.reduceMul, Nat.reduceDiv, Nat.reduceMod, Nat.reduceLeDiff, Nat.reduceLT, Nat.reduceBEq, Int.reduceEq, Int.reduceBEq, Int.reduceBNe, Int.reduceLT, Int.reduceLE, Int.reduceAdd, Int.reduceSub, Int.reduceNeg, Int.reduceToNat, Int.reducePow, Nat.reducePow, Int.reduceMul, Int.reduceDiv, ↓s_ref26_Bucket_b0, h, enterK_eq (q_rBounds b hb H), h1']
      exact ih
theorem q_rBucket (x : Nat) (hx : x ≤ 1099511627776) (H : AHeap) : CC F.ref26_Bucket [.int .i64 (x : Int)] H = some (.int .i64 (lenN x), H) := by
  apply pure_of _ (d_ref26_Bucket _ H) rfl
  rotate_left 2
  · have := l_rBucket x hx H (endK Try.prog [.tmp 2]) (lenN x) 0 (by omega)
    simp (disch := first | with_reducible rfl | assumption | omega | rfl | (simp only [go_sem]; first | done | omega)) only [go_sem, ↓reduceIte, reduceCtorEq, Nat.reduceEqDiff, Nat.reduceAdd, Nat.reduceSub, Nat.reduceMul, Nat.reduceDiv, Nat.reduceMod, Nat.reduceLeDiff, Nat.reduceLT, Nat.reduceBEq, Int.reduceEq, Int.reduceBEq, Int.reduceBNe, Int.reduceLT, Int.reduceLE, Int.reduceAdd, Int.reduceSub, Int.reduceNeg, Int.reduceToNat, Int.reducePow, Nat.reducePow, Int.reduceMul, Int.reduceDiv, ↓s_ref26_Bucket]
    exact this
  · (repeat (first | exact Fr.refl _ | refine Fr.push ?_ _ | refine Fr.set ?_ _ _ (by intro h; first | omega | (simp only [go_sem] at h; omega))))

end Go.Proofs.Ytplblfcofplcmaa

/-
  The seat's functions as terms over the engine's combinators (a program of ours printed it).
  Conditions: none. By an AI agent.
-/
set_option linter.unusedVariables false
namespace Go.Proofs.Ytplblfcofplcmaa
open Go Eng

/-! ticketline.ticketlinelaw26.StatsBuckets -/

noncomputable def s_law_StatsBuckets (mg : GT) (mc : CT) (ms : ST) (P : Program) (C : CallF) (a0 : Value) (a1 : Value) (H : AHeap) (K0 : K) : Res :=
bareK (xbin P .lss T.int (.tmp 7) (.const (.int .i64 0)) a0 (.int .i64 0)) H fun t8 h1 =>
mg t8 false (fun o1 => o1 a0 h1) h1 fun t10 h2 =>
mg t8 false (fun o2 => bareK (xbin P .gtr T.int (.tmp 10) (.const (.int .i64 1099511627776)) t10 (.int .i64 1099511627776)) h2 o2) h2 fun t11 h3 =>
pickK t8 (.bool true) t11 fun t12 =>
mc t12 (fun k3 => enterK C F.law_bucket [a0, (.int .i64 0), (.int .i64 2)] h3 fun t14 h4 =>
bareK (xun P .not t14) h4 fun t15 h5 =>
mc t15 (fun k4 => k4 .ret [(4, (.bool false))] h5) (fun k4 =>
k4 .normal [(1, a1)] h5) (afterK [1] k3)) (fun k3 =>
enterK C F.ref26_Bucket [a0] h3 fun t18 h6 =>
enterK C F.law_bucket [a0, t18, (.int .i64 0)] h6 fun t19 h7 =>
bareK (xun P .not t19) h7 fun t20 h8 =>
mc t20 (fun k5 => k5 .ret [(4, (.bool false))] h8) (fun k5 =>
k5 .normal [(1, a1)] h8) (afterK [1] k3)) (seqK (fun tT h9 =>
bareK (xbin P .lss T.int (.tmp 21) (.const (.int .i64 0)) (get tT 1) (.int .i64 0)) h9 fun t22 h10 =>
mg t22 false (fun o6 => o6 (get tT 1) h10) h10 fun t24 h11 =>
mg t22 false (fun o7 => bareK (xbin P .gtr T.int (.tmp 24) (.const (.int .i64 41)) t24 (.int .i64 41)) h11 o7) h11 fun t25 h12 =>
pickK t22 (.bool true) t25 fun t26 =>
mc t26 (fun k8 => enterK C F.law_bounds [(get tT 1), (.int .i64 0), (.int .i64 0), (.int .i64 2)] h12 fun t28 h13 =>
mg t28 true (fun o9 => enterK C F.law_known [] h13 o9) h13 fun t30 h14 =>
pickK t28 t30 (.bool false) fun t31 =>
k8 .ret [(4, t31)] h14) (fun k8 =>
k8 .normal [(1, (get tT 1))] h12) (seqK (fun tT_1 h15 =>
enterK C F.ref26_Bounds [(get tT_1 1)] h15 fun t34 h16 =>
bareK (xextract t34 0) h16 fun t35 h17 =>
bareK (xextract t34 1) h17 fun t36 h18 =>
enterK C F.law_bounds [(get tT_1 1), t35, t36, (.int .i64 0)] h18 fun t40 h19 =>
mg t40 true (fun o10 => enterK C F.law_known [] h19 o10) h19 fun t42 h20 =>
pickK t40 t42 (.bool false) fun t43 =>
K0 .ret [(4, t43)] h20) K0)) K0)

theorem s_law_StatsBuckets_eq (M : CombL) (C : CallF) (LP : LoopH) (a0 : Value) (a1 : Value) (H : AHeap) : dBodyL M Try.prog hints C LP F.law_StatsBuckets [a0, a1] H = s_law_StatsBuckets M.b.g M.c M.s Try.prog C a0 a1 H (endK Try.prog [.tmp 4]) := by kernel_rfl

end Go.Proofs.Ytplblfcofplcmaa

/-
  The equations of the seat's functions over calls in the limit (a program of ours printed it).
  Conditions: none. By an AI agent.
-/
set_option linter.unusedVariables false
namespace Go.Proofs.Ytplblfcofplcmaa
open Go Eng



theorem d_law_StatsBuckets (a0 : Value) (a1 : Value) (H : AHeap) {r : Value × AHeap} (h : s_law_StatsBuckets guardK condL shareL Try.prog CC a0 a1 H (endK Try.prog [.tmp 4]) = some r) : CC F.law_StatsBuckets [a0, a1] H = some (tidy H r) := D_body (by kernel_rfl) ((s_law_StatsBuckets_eq stdL CC limLP a0 a1 H).trans (Eq.trans (show s_law_StatsBuckets stdL.b.g stdL.c stdL.s Try.prog CC a0 a1 H (endK Try.prog [.tmp 4]) = s_law_StatsBuckets guardK condL shareL Try.prog CC a0 a1 H (endK Try.prog [.tmp 4]) by kernel_rfl) h))

end Go.Proofs.Ytplblfcofplcmaa

/-
  Chapter 26: the law StatsBuckets runs to true.
  Conditions: none. By an AI agent.
-/
set_option maxRecDepth 10000
set_option linter.unusedSimpArgs false
set_option linter.unusedVariables false
namespace Go.Proofs.Ytplblfcofplcmaa
open Go Eng

theorem k_known (H : AHeap) : CC F.law_known [] H = some (.bool true, H) := D_prim (show prims1 F.law_known = some trueP by kernel_rfl) rfl
@[go_sem, go_sem ↓] theorem e_known {H : AHeap} {k : Value → AHeap → Res} : enterK CC F.law_known [] H k = k (.bool true) H := enterK_eq (k_known H)

theorem q_lbucket {n w e : Int} {H : AHeap} (h : CC F.stats_Bucket [.int .i64 n] H = some (.tuple ⟨[.int .i64 w, .int .i64 e]⟩, H)) : CC F.law_bucket [.int .i64 n, .int .i64 w, .int .i64 e] H = some (.bool true, H) := by
  apply pure_of _ (d_law_bucket _ _ _ H) rfl
  rotate_left 2
  · simp (disch := first | with_reducible rfl | assumption | omega | rfl | (simp only [go_sem]; first | done | omega)) only [go_sem, ↓reduceIte, reduceCtorEq, Nat.reduceEqDiff, Nat.reduceAdd, Nat.reduceSub, Nat.reduceMul, Nat.reduceDiv, Nat.reduceMod, Nat.reduceLeDiff, Nat.reduceLT, Nat.reduceBEq, Int.reduceEq, Int.reduceBEq, Int.reduceBNe, Int.reduceLT, Int.reduceLE, Int.reduceAdd, Int.reduceSub, Int.reduceNeg, Int.reduceToNat, Int.reducePow, Nat.reducePow, Int.reduceMul, Int.reduceDiv, ↓s_law_bucket, ↓enterK_eq h, enterK_eq h]
    rfl
  · (repeat (first | exact Fr.refl _ | refine Fr.push ?_ _ | refine Fr.set ?_ _ _ (by intro h; first | omega | (simp only [go_sem] at h; omega))))
theorem q_lbounds {n w w2 e : Int} {H : AHeap} (h : CC F.stats_Bounds [.int .i64 n] H = some (.tuple ⟨[.int .i64 w, .int .i64 w2, .int .i64 e]⟩, H)) : CC F.law_bounds [.int .i64 n, .int .i64 w, .int .i64 w2, .int .i64 e] H = some (.bool true, H) := by
  apply pure_of _ (d_law_bounds _ _ _ _ H) rfl
  rotate_left 2
  · simp (disch := first | with_reducible rfl | assumption | omega | rfl | (simp only [go_sem]; first | done | omega)) only [go_sem, ↓reduceIte, reduceCtorEq, Nat.reduceEqDiff, Nat.reduceAdd, Nat.reduceSub, Nat.reduceMul, Nat.reduceDiv, Nat.reduceMod, Nat.reduceLeDiff, Nat.reduceLT, Nat.reduceBEq, Int.reduceEq, Int.reduceBEq, Int.reduceBNe, Int.reduceLT, Int.reduceLE, Int.reduceAdd, Int.reduceSub, Int.reduceNeg, Int.reduceToNat, Int.reducePow, Nat.reducePow, Int.reduceMul, Int.reduceDiv, ↓s_law_bounds, ↓enterK_eq h, enterK_eq h]
    rfl
  · (repeat (first | exact Fr.refl _ | refine Fr.push ?_ _ | refine Fr.set ?_ _ _ (by intro h; first | omega | (simp only [go_sem] at h; omega))))

theorem q_StatsBuckets (n b : Int) (H : AHeap) : CC F.law_StatsBuckets [.int .i64 n, .int .i64 b] H = some (.bool true, H) := by
  have hB : ∀ (H : AHeap), b < 0 ∨ 41 < b → CC F.law_bounds [.int .i64 b, .int .i64 0, .int .i64 0, .int .i64 2] H = some (.bool true, H) := fun H h => q_lbounds (q_Bounds_bad b h H)
  have hG : ∀ (c : Nat) (H : AHeap), c ≤ 41 → b = (c : Int) → CC F.law_bounds [.int .i64 (c : Int), .int .i64 (loN c), .int .i64 (hiN c), .int .i64 0] H = some (.bool true, H) := fun c H h _ => q_lbounds (q_Bounds c h H)
  by_cases h1 : n < 0
  · have e1 := q_lbucket (q_Bucket_bad n (.inl h1) H)
    by_cases h3 : b < 0
    · apply pure_of _ (d_law_StatsBuckets _ _ H) rfl
      rotate_left 2
      · simp (disch := first | with_reducible rfl | assumption | omega | rfl | (simp only [go_sem]; first | done | omega)) only [go_sem, ↓reduceIte, reduceCtorEq, Nat.reduceEqDiff, Nat.reduceAdd, Nat.reduceSub, Nat.reduceMul, Nat.reduceDiv, Nat.reduceMod, Nat.reduceLeDiff, Nat.reduceLT, Nat.reduceBEq, Int.reduceEq, Int.reduceBEq, Int.reduceBNe, Int.reduceLT, Int.reduceLE, Int.reduceAdd, Int.reduceSub, Int.reduceNeg, Int.reduceToNat, Int.reducePow, Nat.reducePow, Int.reduceMul, Int.reduceDiv, ↓s_law_StatsBuckets, h1, h3, ↓enterK_eq e1, enterK_eq e1, enterK_eq (hB H (.inl h3))]
        rfl
      · (repeat (first | exact Fr.refl _ | refine Fr.push ?_ _ | refine Fr.set ?_ _ _ (by intro h; first | omega | (simp only [go_sem] at h; omega))))
    · by_cases h4 : 41 < b
      · apply pure_of _ (d_law_StatsBuckets _ _ H) rfl
        rotate_left 2
        · simp (disch := first | with_reducible rfl | assumption | omega | rfl | (simp only [go_sem]; first | done | omega)) only [go_sem, ↓reduceIte, reduceCtorEq, Nat.reduceEqDiff, Nat.reduceAdd, Nat.reduceSub, Nat.reduceMul, Nat.reduceDiv, Nat.reduceMod, Nat.reduceLeDiff, Nat.reduceLT, Nat.reduceBEq, Int.reduceEq, Int.reduceBEq, Int.reduceBNe, Int.reduceLT, Int.reduceLE, Int.reduceAdd, Int.reduceSub, Int.reduceNeg, Int.reduceToNat, Int.reducePow, Nat.reducePow, Int.reduceMul, Int.reduceDiv, ↓s_law_StatsBuckets, h1, h3, h4, ↓enterK_eq e1, enterK_eq e1, enterK_eq (hB H (.inr h4))]
          rfl
        · (repeat (first | exact Fr.refl _ | refine Fr.push ?_ _ | refine Fr.set ?_ _ _ (by intro h; first | omega | (simp only [go_sem] at h; omega))))
      · obtain ⟨c, rfl⟩ : ∃ c : Nat, b = (c : Int) := ⟨b.toNat, by omega⟩
        apply pure_of _ (d_law_StatsBuckets _ _ H) rfl
        rotate_left 2
        · simp (disch := first | with_reducible rfl | assumption | omega | rfl | (simp only [go_sem]; first | done | omega)) only [go_sem, ↓reduceIte, reduceCtorEq, Nat.reduceEqDiff, Nat.reduceAdd, Nat.reduceSub, Nat.reduceMul, Nat.reduceDiv, Nat.reduceMod, Nat.reduceLeDiff, Nat.reduceLT, Nat.reduceBEq, Int.reduceEq, Int.reduceBEq, Int.reduceBNe, Int.reduceLT, Int.reduceLE, Int.reduceAdd, Int.reduceSub, Int.reduceNeg, Int.reduceToNat, Int.reducePow, Nat.reducePow, Int.reduceMul, Int.reduceDiv, ↓s_law_StatsBuckets, h1, h3, h4, ↓enterK_eq e1, enterK_eq e1, enterK_eq (q_rBounds c (by omega) H), enterK_eq (hG c H (by omega) rfl)]
          rfl
        · (repeat (first | exact Fr.refl _ | refine Fr.push ?_ _ | refine Fr.set ?_ _ _ (by intro h; first | omega | (simp only [go_sem] at h; omega))))
  · by_cases h2 : 1099511627776 < n
    · have e1 := q_lbucket (q_Bucket_bad n (.inr h2) H)
      by_cases h3 : b < 0
      · apply pure_of _ (d_law_StatsBuckets _ _ H) rfl
        rotate_left 2
        · simp (disch := first | with_reducible rfl | assumption | omega | rfl | (simp only [go_sem]; first | done | omega)) only [go_sem, ↓reduceIte, reduceCtorEq, Nat.reduceEqDiff, Nat.reduceAdd, Nat.reduceSub, Nat.reduceMul, Nat.reduceDiv, Nat.reduceMod, Nat.reduceLeDiff, Nat.reduceLT, Nat.reduceBEq, Int.reduceEq, Int.reduceBEq, Int.reduceBNe, Int.reduceLT, Int.reduceLE, Int.reduceAdd, Int.reduceSub, Int.reduceNeg, Int.reduceToNat, Int.reducePow, Nat.reducePow, Int.reduceMul, Int.reduceDiv, ↓s_law_StatsBuckets, h1, h2, h3, ↓enterK_eq e1, enterK_eq e1, enterK_eq (hB H (.inl h3))]
          rfl
        · (repeat (first | exact Fr.refl _ | refine Fr.push ?_ _ | refine Fr.set ?_ _ _ (by intro h; first | omega | (simp only [go_sem] at h; omega))))
      · by_cases h4 : 41 < b
        · apply pure_of _ (d_law_StatsBuckets _ _ H) rfl
          rotate_left 2
          · simp (disch := first | with_reducible rfl | assumption | omega | rfl | (simp only [go_sem]; first | done | omega)) only [go_sem, ↓reduceIte, reduceCtorEq, Nat.reduceEqDiff, Nat.reduceAdd, Nat.reduceSub, Nat.reduceMul, Nat.reduceDiv, Nat.reduceMod, Nat.reduceLeDiff, Nat.reduceLT, Nat.reduceBEq, Int.reduceEq, Int.reduceBEq, Int.reduceBNe, Int.reduceLT, Int.reduceLE, Int.reduceAdd, Int.reduceSub, Int.reduceNeg, Int.reduceToNat, Int.reducePow, Nat.reducePow, Int.reduceMul, Int.reduceDiv, ↓s_law_StatsBuckets, h1, h2, h3, h4, ↓enterK_eq e1, enterK_eq e1, enterK_eq (hB H (.inr h4))]
            rfl
          · (repeat (first | exact Fr.refl _ | refine Fr.push ?_ _ | refine Fr.set ?_ _ _ (by intro h; first | omega | (simp only [go_sem] at h; omega))))
        · obtain ⟨c, rfl⟩ : ∃ c : Nat, b = (c : Int) := ⟨b.toNat, by omega⟩
          apply pure_of _ (d_law_StatsBuckets _ _ H) rfl
          rotate_left 2
          · simp (disch := first | with_reducible rfl | assumption | omega | rfl | (simp only [go_sem]; first | done | omega)) only [go_sem, ↓reduceIte, reduceCtorEq, Nat.reduceEqDiff, Nat.reduceAdd, Nat.reduceSub, Nat.reduceMul, Nat.reduceDiv, Nat.reduceMod, Nat.reduceLeDiff, Nat.reduceLT, Nat.reduceBEq, Int.reduceEq, Int.reduceBEq, Int.reduceBNe, Int.reduceLT, Int.reduceLE, Int.reduceAdd, Int.reduceSub, Int.reduceNeg, Int.reduceToNat, Int.reducePow, Nat.reducePow, Int.reduceMul, Int.reduceDiv, ↓s_law_StatsBuckets, h1, h2, h3, h4, ↓enterK_eq e1, enterK_eq e1, enterK_eq (q_rBounds c (by omega) H), enterK_eq (hG c H (by omega) rfl)]
            rfl
          · (repeat (first | exact Fr.refl _ | refine Fr.push ?_ _ | refine Fr.set ?_ _ _ (by intro h; first | omega | (simp only [go_sem] at h; omega))))
    · obtain ⟨x, rfl⟩ : ∃ x : Nat, n = (x : Int) := ⟨n.toNat, by omega⟩
      have e0 := q_rBucket x (by omega) H
      have e1 := q_lbucket (q_Bucket x (by omega) H)
      by_cases h3 : b < 0
      · apply pure_of _ (d_law_StatsBuckets _ _ H) rfl
        rotate_left 2
        · simp (disch := first | with_reducible rfl | assumption | omega | rfl | (simp only [go_sem]; first | done | omega)) only [go_sem, ↓reduceIte, reduceCtorEq, Nat.reduceEqDiff, Nat.reduceAdd, Nat.reduceSub, Nat.reduceMul, Nat.reduceDiv, Nat.reduceMod, Nat.reduceLeDiff, Nat.reduceLT, Nat.reduceBEq, Int.reduceEq, Int.reduceBEq, Int.reduceBNe, Int.reduceLT, Int.reduceLE, Int.reduceAdd, Int.reduceSub, Int.reduceNeg, Int.reduceToNat, Int.reducePow, Nat.reducePow, Int.reduceMul, Int.reduceDiv, ↓s_law_StatsBuckets, h1, h2, h3, ↓enterK_eq e0, enterK_eq e0, ↓enterK_eq e1, enterK_eq e1, enterK_eq (hB H (.inl h3))]
          rfl
        · (repeat (first | exact Fr.refl _ | refine Fr.push ?_ _ | refine Fr.set ?_ _ _ (by intro h; first | omega | (simp only [go_sem] at h; omega))))
      · by_cases h4 : 41 < b
        · apply pure_of _ (d_law_StatsBuckets _ _ H) rfl
          rotate_left 2
          · simp (disch := first | with_reducible rfl | assumption | omega | rfl | (simp only [go_sem]; first | done | omega)) only [go_sem, ↓reduceIte, reduceCtorEq, Nat.reduceEqDiff, Nat.reduceAdd, Nat.reduceSub, Nat.reduceMul, Nat.reduceDiv, Nat.reduceMod, Nat.reduceLeDiff, Nat.reduceLT, Nat.reduceBEq, Int.reduceEq, Int.reduceBEq, Int.reduceBNe, Int.reduceLT, Int.reduceLE, Int.reduceAdd, Int.reduceSub, Int.reduceNeg, Int.reduceToNat, Int.reducePow, Nat.reducePow, Int.reduceMul, Int.reduceDiv, ↓s_law_StatsBuckets, h1, h2, h3, h4, ↓enterK_eq e0, enterK_eq e0, ↓enterK_eq e1, enterK_eq e1, enterK_eq (hB H (.inr h4))]
            rfl
          · (repeat (first | exact Fr.refl _ | refine Fr.push ?_ _ | refine Fr.set ?_ _ _ (by intro h; first | omega | (simp only [go_sem] at h; omega))))
        · obtain ⟨c, rfl⟩ : ∃ c : Nat, b = (c : Int) := ⟨b.toNat, by omega⟩
          apply pure_of _ (d_law_StatsBuckets _ _ H) rfl
          rotate_left 2
          · simp (disch := first | with_reducible rfl | assumption | omega | rfl | (simp only [go_sem]; first | done | omega)) only [go_sem, ↓reduceIte, reduceCtorEq, Nat.reduceEqDiff, Nat.reduceAdd, Nat.reduceSub, Nat.reduceMul, Nat.reduceDiv, Nat.reduceMod, Nat.reduceLeDiff, Nat.reduceLT, Nat.reduceBEq, Int.reduceEq, Int.reduceBEq, Int.reduceBNe, Int.reduceLT, Int.reduceLE, Int.reduceAdd, Int.reduceSub, Int.reduceNeg, Int.reduceToNat, Int.reducePow, Nat.reducePow, Int.reduceMul, Int.reduceDiv, ↓s_law_StatsBuckets, h1, h2, h3, h4, ↓enterK_eq e0, enterK_eq e0, ↓enterK_eq e1, enterK_eq e1, enterK_eq (q_rBounds c (by omega) H), enterK_eq (hG c H (by omega) rfl)]
            rfl
          · (repeat (first | exact Fr.refl _ | refine Fr.push ?_ _ | refine Fr.set ?_ _ _ (by intro h; first | omega | (simp only [go_sem] at h; omega))))

theorem run_StatsBuckets (a b : Int) (_ : (Lit.int .i64 a).wf = true) (_ : (Lit.int .i64 b).wf = true) : ∃ k H', dCall Try.prog prims1 hints k F.law_StatsBuckets [.int .i64 a, .int .i64 b] H0 = some (.bool true, H') := by
  obtain ⟨k, h⟩ := D_run (q_StatsBuckets a b H0)
  exact ⟨k, _, h⟩

end Go.Proofs.Ytplblfcofplcmaa

/-
  Chapter 26: counters.
  Conditions: none. By an AI agent.
-/
set_option maxRecDepth 10000
set_option linter.unusedSimpArgs false
set_option linter.unusedVariables false
namespace Go.Proofs.Ytplblfcofplcmaa
open Go Eng
theorem bareK_congr' {x y : Option Value} {H : AHeap} {k : Value → AHeap → Res} (h : x = y) : bareK x H k = bareK y H k := by rw [h]
theorem bothK_congr' {x y : Option (Value × AHeap)} {k : Value → AHeap → Res} (h : x = y) : bothK x k = bothK y k := by rw [h]
theorem quietK_congr' {x y : Option AHeap} {k : Value → AHeap → Res} (h : x = y) : quietK x k = quietK y k := by rw [h]
attribute [local congr] bareK_congr' bothK_congr' quietK_congr'

abbrev Ec := List (ByteArray × Nat)
def entsOf (E : Ec) : List (Value × Value) := E.map fun p => (.string p.1, .int .i64 (p.2 : Int))
def RC (v : Value) (a : Nat) : Prop := v = .int .i64 (a : Int)
theorem ent_of : ∀ E : Ec, Ent RC kStr.kv (entsOf E) E
  | [] => trivial
  | _ :: E => ⟨rfl, rfl, ent_of E⟩
theorem of_ent : ∀ {ents : List (Value × Value)} {E : Ec}, Ent RC kStr.kv ents E → ents = entsOf E
  | [], [], _ => rfl
  | (k, v) :: ents, p :: E, h => by
    obtain ⟨h1, h2, h3⟩ := h
    simp only at h1 h2
    subst h1
    have h2 : v = .int .i64 (p.2 : Int) := h2
    subst h2
    rw [of_ent h3]
    rfl
  | [], _ :: _, h => h.elim
  | _ :: _, [], h => h.elim
theorem mt : MapT Try.prog kStr T.map_string_int (.int .i64 0) := ⟨_, _, Try.underlying32, by kernel_rfl, by kernel_rfl⟩

@[go_sem] theorem cp_some {ox oy : Operand} {a : Addr} : xbin Try.prog .eql T.p_stats_Counter ox oy (.pointer (some a)) (.pointer none) = some (.bool false) := by kernel_rfl
theorem map_nil {ox oy : Operand} : xbin Try.prog .eql T.map_string_int ox oy (.map none) (.map none) = some (.bool true) := by kernel_rfl
theorem map_some {ox oy : Operand} {b : Nat} : xbin Try.prog .eql T.map_string_int ox oy (.map (some b)) (.map none) = some (.bool false) := by kernel_rfl

structure Cnt (H : AHeap) (c mb : Nat) (E : Ec) (tot : Nat) : Prop where
  ok : ∀ b, H.ver b < H.clk
  f : H.f c = .cells [.map (some mb), .int .i64 (tot : Int)] T.stats_Counter true
  m : H.f mb = .map (entsOf E)
  cn : c < H.n
  mn : mb < H.n
  ne : c ≠ mb

theorem q_named (s : ByteArray) (H : AHeap) (hs : asciiB s = true) : CC F.stats_named [.string s] H = some (.bool (namedB s), H) :=
  D_prim (show prims1 F.stats_named = some namedP by kernel_rfl) (by unfold namedP; simp only; rw [if_pos hs])

section
variable {H : AHeap} {c mb : Nat} {E : Ec} {tot : Nat}

theorem q_Total (h : H.f c = .cells [.map (some mb), .int .i64 (tot : Int)] T.stats_Counter true) : CC F.stats_Counter_Total [.pointer (some ⟨c, 0, none⟩)] H = some (.int .i64 (tot : Int), H) := by
  apply pure_of _ (d_stats_Counter_Total _ H) rfl
  rotate_left 2
  · simp (disch := first | with_reducible rfl | assumption | omega | rfl | (simp only [go_sem]; first | done | omega)) only [go_sem, ↓reduceIte, reduceCtorEq, Nat.reduceEqDiff, Nat.reduceAdd, Nat.reduceSub, Nat.reduceMul, Nat.reduceDiv, Nat.reduceMod, Nat.reduceLeDiff, Nat.reduceLT, Nat.reduceBEq, Int.reduceEq, Int.reduceBEq, Int.reduceBNe, Int.reduceLT, Int.reduceLE, Int.reduceAdd, Int.reduceSub, Int.reduceNeg, Int.reduceToNat, Int.reducePow, Nat.reducePow, Int.reduceMul, Int.reduceDiv, ↓s_stats_Counter_Total, h]
    rfl
  · (repeat (first | exact Fr.refl _ | refine Fr.push ?_ _ | refine Fr.set ?_ _ _ (by intro h; first | omega | (simp only [go_sem] at h; omega))))
theorem q_Get (h : Cnt H c mb E tot) {s : ByteArray} {a : Nat} (ha : lkp E s = some a) : CC F.stats_Counter_Get [.pointer (some ⟨c, 0, none⟩), .string s] H = some (.int .i64 (a : Int), H) := by
  obtain ⟨v, hl, hv⟩ := look_some mt h.m (ent_of E) ha false
  have hv : v = .int .i64 (a : Int) := hv
  subst hv
  have hl : xlookup Try.prog T.map_string_int (.map (some mb)) (.string s) false H = some (.int .i64 (a : Int)) := hl
  have hf := h.f
  apply pure_of _ (d_stats_Counter_Get _ _ H) rfl
  rotate_left 2
  · simp (disch := first | with_reducible rfl | assumption | omega | rfl | (simp only [go_sem]; first | done | omega)) only [go_sem, ↓reduceIte, reduceCtorEq, Nat.reduceEqDiff, Nat.reduceAdd, Nat.reduceSub, Nat.reduceMul, Nat.reduceDiv, Nat.reduceMod, Nat.reduceLeDiff, Nat.reduceLT, Nat.reduceBEq, Int.reduceEq, Int.reduceBEq, Int.reduceBNe, Int.reduceLT, Int.reduceLE, Int.reduceAdd, Int.reduceSub, Int.reduceNeg, Int.reduceToNat, Int.reducePow, Nat.reducePow, Int.reduceMul, Int.reduceDiv, ↓s_stats_Counter_Get, hf, hl]
    rfl
  · (repeat (first | exact Fr.refl _ | refine Fr.push ?_ _ | refine Fr.set ?_ _ _ (by intro h; first | omega | (simp only [go_sem] at h; omega))))

/-- The first name. -/
theorem q_cAdd0 (s : ByteArray) (n : Nat) (hs : asciiB s = true) (hn : namedB s = true) (h0 : 0 < n) (h1 : n ≤ 4611686018427387904) (ok : ∀ b, H.ver b < H.clk) (hc : c < H.n) (hf : H.f c = .cells [.map none, .int .i64 0] T.stats_Counter true) :
    ∃ H', CC F.stats_Counter_Add [.pointer (some ⟨c, 0, none⟩), .string s, .int .i64 (n : Int)] H = some (.int .i64 0, H') ∧ Cnt H' c H.n [(s, n)] n := by
  have e1 := q_named s H hs
  rw [hn] at e1
  have a1 : ¬ (n : Int) < 0 := by omega
  have a2 : ¬ (4611686018427387904 : Int) < (n : Int) := by omega
  have a3 : ¬ (n : Int) = 0 := by omega
  have l1 : xlookup Try.prog T.map_string_int (.map none) (.string s) true H = some (.tuple #[.int .i64 0, .bool false]) := look_nil mt (k := s) true
  have l2 : xlenM Try.prog [T.map_string_int] (.map none) H = some (.int .i64 0) := len_mapnil mt []
  have l3 : xmakeMap Try.prog T.map_string_int none H = some (.map (some H.n), H.push (.map [])) := make_map mt
  obtain ⟨H1, hH1⟩ : ∃ H1, H.push (.map []) = H1 := ⟨_, rfl⟩
  rw [hH1] at l3
  have s1 : Still H H1 := by rw [← hH1]; exact (Fr.refl H).push _
  have f1 : H1.f c = .cells [.map none, .int .i64 0] T.stats_Counter true := by rw [s1.f hc (fun h => h)]; exact hf
  have m1 : H1.f H.n = .map (entsOf []) := by rw [← hH1]; exact push_f_eq rfl
  have n1 : H1.n = H.n + 1 := by rw [← hH1]; rfl
  obtain ⟨H2, hH2⟩ : ∃ H2, H1.set c (.cells [.map (some H.n), .int .i64 0] T.stats_Counter true) = H2 := ⟨_, rfl⟩
  have f2 : H2.f c = .cells [.map (some H.n), .int .i64 0] T.stats_Counter true := by rw [← hH2]; exact set_f_eq
  have m2 : H2.f H.n = .map (entsOf []) := by rw [← hH2, set_f_ne (by omega)]; exact m1
  have l4 : xlookup Try.prog T.map_string_int (.map (some H.n)) (.string s) false H2 = some (.int .i64 0) := look_none mt m2 (ent_of []) (k := s) rfl false
  have l5 := upd_map mt m2 (ent_of []) s (.int .i64 (n : Int))
  have p5 : mput (entsOf []) (kStr.kv s) (.int .i64 (n : Int)) = entsOf [(s, n)] := of_ent ((ent_of []).put (R := RC) (k := s) (a := n) rfl)
  rw [p5] at l5
  obtain ⟨H3, hH3⟩ : ∃ H3, H2.set H.n (.map (entsOf [(s, n)])) = H3 := ⟨_, rfl⟩
  rw [hH3] at l5
  have l5 : xmapUpdate Try.prog T.map_string_int (.map (some H.n)) (.string s) (.int .i64 (n : Int)) H2 = some H3 := l5
  have f3 : H3.f c = .cells [.map (some H.n), .int .i64 0] T.stats_Counter true := by rw [← hH3, set_f_ne (by omega)]; exact f2
  have m3 : H3.f H.n = .map (entsOf [(s, n)]) := by rw [← hH3]; exact set_f_eq
  obtain ⟨H4, hH4⟩ : ∃ H4, H3.set c (.cells [.map (some H.n), .int .i64 (n : Int)] T.stats_Counter true) = H4 := ⟨_, rfl⟩
  have f4 : H4.f c = .cells [.map (some H.n), .int .i64 (n : Int)] T.stats_Counter true := by rw [← hH4]; exact set_f_eq
  have m4 : H4.f H.n = .map (entsOf [(s, n)]) := by rw [← hH4, set_f_ne (by omega)]; exact m3
  have fr2 : Fr (fun b => b = c) H H2 := by rw [← hH2]; exact Fr.set s1.still _ _ fun _ => rfl
  have fr3 : Fr (fun b => b = c) H H3 := by rw [← hH3]; exact Fr.set fr2 _ _ fun h => absurd h (Nat.lt_irrefl _)
  have fr4 : Fr (fun b => b = c) H H4 := by rw [← hH4]; exact fr3.set _ _ fun _ => rfl
  have n4 : H4.n = H.n + 1 := by rw [← hH4, ← hH3, ← hH2]; exact n1
  refine ⟨H4, (d_stats_Counter_Add _ _ _ H (r := (.int .i64 0, H4)) ?_).trans (congrArg some (tidy_turned hc (ok c) (by rw [← hH4, set_v_eq]; exact fr3.clk))), ⟨fr4.ok ok, f4, m4, by omega, by omega, by omega⟩⟩
  simp (disch := first | with_reducible rfl | assumption | omega | rfl | (simp only [go_sem]; first | done | omega)) only [go_sem, ↓reduceIte, reduceCtorEq, Nat.reduceEqDiff, Nat.reduceAdd, Nat.reduceSub, Nat.reduceMul, Nat.reduceDiv, Nat.reduceMod, Nat.reduceLeDiff, Nat.reduceLT, Nat.reduceBEq, Int.reduceEq, Int.reduceBEq, Int.reduceBNe, Int.reduceLT, Int.reduceLE, Int.reduceAdd, Int.reduceSub, Int.reduceNeg, Int.reduceToNat, Int.reducePow, Nat.reducePow, Int.reduceMul, Int.reduceDiv, ↓s_stats_Counter_Add, hf, l1, ↓enterK_eq e1, enterK_eq e1, a1, a2, a3, l2, map_nil, l3, f1, hH2, f2, l4, l5, f3, hH4, Int.zero_add, Bool.not_true, Bool.not_false]

/-- A name that is added, or of which there is more. -/
theorem q_cAdd (s : ByteArray) (n old : Nat) (hs : asciiB s = true) (hn : namedB s = true) (h0 : 0 < n) (h : Cnt H c mb E tot) (ht : tot + n ≤ 4611686018427387904) (hold : (lkp E s = none ∧ old = 0 ∧ E.length ≠ 1000) ∨ (lkp E s = some old)) (ho : old + n ≤ 4611686018427387904) :
    ∃ H', CC F.stats_Counter_Add [.pointer (some ⟨c, 0, none⟩), .string s, .int .i64 (n : Int)] H = some (.int .i64 0, H') ∧ Cnt H' c mb (putE E s (old + n)) (tot + n) := by
  have e1 := q_named s H hs
  rw [hn] at e1
  have a1 : ¬ (n : Int) < 0 := by omega
  have a2 : ¬ (4611686018427387904 : Int) < (n : Int) := by omega
  have a3 : ¬ (n : Int) = 0 := by omega
  have a4 : ¬ (4611686018427387904 : Int) - (tot : Int) < (n : Int) := by omega
  have hf := h.f
  have hm := h.m
  have hcn := h.cn
  have hmn := h.mn
  have hne := h.ne
  have l5 := upd_map mt hm (ent_of E) s (.int .i64 ((old : Int) + (n : Int)))
  have p5 : mput (entsOf E) (kStr.kv s) (.int .i64 ((old : Int) + (n : Int))) = entsOf (putE E s (old + n)) := of_ent ((ent_of E).put (R := RC) (k := s) (a := old + n) (by show _ = _; rw [Int.natCast_add]))
  rw [p5] at l5
  obtain ⟨H3, hH3⟩ : ∃ H3, H.set mb (.map (entsOf (putE E s (old + n)))) = H3 := ⟨_, rfl⟩
  rw [hH3] at l5
  have l5 : xmapUpdate Try.prog T.map_string_int (.map (some mb)) (.string s) (.int .i64 ((old : Int) + (n : Int))) H = some H3 := l5
  have f3 : H3.f c = .cells [.map (some mb), .int .i64 (tot : Int)] T.stats_Counter true := by rw [← hH3, set_f_ne hne]; exact hf
  have m3 : H3.f mb = .map (entsOf (putE E s (old + n))) := by rw [← hH3]; exact set_f_eq
  obtain ⟨H4, hH4⟩ : ∃ H4, H3.set c (.cells [.map (some mb), .int .i64 ((tot : Int) + (n : Int))] T.stats_Counter true) = H4 := ⟨_, rfl⟩
  have f4 : H4.f c = .cells [.map (some mb), .int .i64 ((tot + n : Nat) : Int)] T.stats_Counter true := by rw [← hH4, Int.natCast_add]; exact set_f_eq
  have m4 : H4.f mb = .map (entsOf (putE E s (old + n))) := by rw [← hH4, set_f_ne (fun h => hne h.symm)]; exact m3
  have fr3 : Fr (fun b => b = c ∨ b = mb) H H3 := by rw [← hH3]; exact Fr.set (Fr.refl H) _ _ fun _ => .inr rfl
  have fr4 : Fr (fun b => b = c ∨ b = mb) H H4 := by rw [← hH4]; exact fr3.set _ _ fun _ => .inl rfl
  have n4 : H4.n = H.n := by rw [← hH4, ← hH3]; rfl
  refine ⟨H4, (d_stats_Counter_Add _ _ _ H (r := (.int .i64 0, H4)) ?_).trans (congrArg some (tidy_turned hcn (h.ok c) (by rw [← hH4, set_v_eq]; exact fr3.clk))), ⟨fr4.ok h.ok, f4, m4, by omega, by omega, hne⟩⟩
  rcases hold with ⟨hk, hz, hlen⟩ | hk
  · have l1 : xlookup Try.prog T.map_string_int (.map (some mb)) (.string s) true H = some (.tuple #[.int .i64 0, .bool false]) := look_none mt hm (ent_of E) hk true
    have l2 : xlenM Try.prog [T.map_string_int] (.map (some mb)) H = some (.int .i64 (E.length : Int)) := len_map mt hm (ent_of E) []
    have l4 : xlookup Try.prog T.map_string_int (.map (some mb)) (.string s) false H = some (.int .i64 (old : Int)) := by rw [hz]; exact look_none mt hm (ent_of E) hk false
    have a5 : ¬ (E.length : Int) = 1000 := by omega
    simp (disch := first | with_reducible rfl | assumption | omega | rfl | (simp only [go_sem]; first | done | omega)) only [go_sem, ↓reduceIte, reduceCtorEq, Nat.reduceEqDiff, Nat.reduceAdd, Nat.reduceSub, Nat.reduceMul, Nat.reduceDiv, Nat.reduceMod, Nat.reduceLeDiff, Nat.reduceLT, Nat.reduceBEq, Int.reduceEq, Int.reduceBEq, Int.reduceBNe, Int.reduceLT, Int.reduceLE, Int.reduceAdd, Int.reduceSub, Int.reduceNeg, Int.reduceToNat, Int.reducePow, Nat.reducePow, Int.reduceMul, Int.reduceDiv, ↓s_stats_Counter_Add, hf, l1, ↓enterK_eq e1, enterK_eq e1, a1, a2, a3, a4, l2, a5, map_some, l4, l5, f3, hH4, Bool.not_true, Bool.not_false]
  · obtain ⟨v1, l1, hv1⟩ := look_some mt hm (ent_of E) hk true
    have hv1 : v1 = .int .i64 (old : Int) := hv1
    subst hv1
    have l1 : xlookup Try.prog T.map_string_int (.map (some mb)) (.string s) true H = some (.tuple #[.int .i64 (old : Int), .bool true]) := l1
    obtain ⟨v4, l4, hv4⟩ := look_some mt hm (ent_of E) hk false
    have hv4 : v4 = .int .i64 (old : Int) := hv4
    subst hv4
    have l4 : xlookup Try.prog T.map_string_int (.map (some mb)) (.string s) false H = some (.int .i64 (old : Int)) := l4
    simp (disch := first | with_reducible rfl | assumption | omega | rfl | (simp only [go_sem]; first | done | omega)) only [go_sem, ↓reduceIte, reduceCtorEq, Nat.reduceEqDiff, Nat.reduceAdd, Nat.reduceSub, Nat.reduceMul, Nat.reduceDiv, Nat.reduceMod, Nat.reduceLeDiff, Nat.reduceLT, Nat.reduceBEq, Int.reduceEq, Int.reduceBEq, Int.reduceBNe, Int.reduceLT, Int.reduceLE, Int.reduceAdd, Int.reduceSub, Int.reduceNeg, Int.reduceToNat, Int.reducePow, Nat.reducePow, Int.reduceMul, Int.reduceDiv, ↓s_stats_Counter_Add, hf, l1, ↓enterK_eq e1, enterK_eq e1, a1, a2, a3, a4, map_some, l4, l5, f3, hH4, Bool.not_true, Bool.not_false]

theorem q_cAdd_full (s : ByteArray) (n : Nat) (hs : asciiB s = true) (hn : namedB s = true) (h0 : 0 < n) (hn2 : n ≤ 4611686018427387904) (h : Cnt H c mb E tot) (ht2 : tot ≤ 4611686018427387904) (hfu : 4611686018427387904 < tot + n ∨ (lkp E s = none ∧ E.length = 1000)) :
    CC F.stats_Counter_Add [.pointer (some ⟨c, 0, none⟩), .string s, .int .i64 (n : Int)] H = some (.int .i64 7, H) := by
  have e1 := q_named s H hs
  rw [hn] at e1
  have a1 : ¬ (n : Int) < 0 := by omega
  have a2 : ¬ (4611686018427387904 : Int) < (n : Int) := by omega
  have a3 : ¬ (n : Int) = 0 := by omega
  have hf := h.f
  have hm := h.m
  obtain ⟨z, is, l1⟩ : ∃ z is, xlookup Try.prog T.map_string_int (.map (some mb)) (.string s) true H = some (.tuple #[z, .bool is]) := by
    cases hk : lkp E s with
    | none => exact ⟨_, _, look_none mt hm (ent_of E) hk true⟩
    | some a =>
      obtain ⟨v1, l1, _⟩ := look_some mt hm (ent_of E) hk true
      exact ⟨_, _, l1⟩
  by_cases a4 : (4611686018427387904 : Int) - (tot : Int) < (n : Int)
  · apply pure_of _ (d_stats_Counter_Add _ _ _ H) rfl
    rotate_left 2
    · simp (disch := first | with_reducible rfl | assumption | omega | rfl | (simp only [go_sem]; first | done | omega)) only [go_sem, ↓reduceIte, reduceCtorEq, Nat.reduceEqDiff, Nat.reduceAdd, Nat.reduceSub, Nat.reduceMul, Nat.reduceDiv, Nat.reduceMod, Nat.reduceLeDiff, Nat.reduceLT, Nat.reduceBEq, Int.reduceEq, Int.reduceBEq, Int.reduceBNe, Int.reduceLT, Int.reduceLE, Int.reduceAdd, Int.reduceSub, Int.reduceNeg, Int.reduceToNat, Int.reducePow, Nat.reducePow, Int.reduceMul, Int.reduceDiv, ↓s_stats_Counter_Add, hf, l1, ↓enterK_eq e1, enterK_eq e1, a1, a2, a3, a4, Bool.not_true, Bool.not_false]
      rfl
    · (repeat (first | exact Fr.refl _ | refine Fr.push ?_ _ | refine Fr.set ?_ _ _ (by intro h; first | omega | (simp only [go_sem] at h; omega))))
  · obtain ⟨hk, hlen⟩ := hfu.resolve_left (by omega)
    have l1 : xlookup Try.prog T.map_string_int (.map (some mb)) (.string s) true H = some (.tuple #[.int .i64 0, .bool false]) := look_none mt hm (ent_of E) hk true
    have l2 : xlenM Try.prog [T.map_string_int] (.map (some mb)) H = some (.int .i64 (E.length : Int)) := len_map mt hm (ent_of E) []
    have a5 : (E.length : Int) = 1000 := by omega
    rw [a5] at l2
    apply pure_of _ (d_stats_Counter_Add _ _ _ H) rfl
    rotate_left 2
    · simp (disch := first | with_reducible rfl | assumption | omega | rfl | (simp only [go_sem]; first | done | omega)) only [go_sem, ↓reduceIte, reduceCtorEq, Nat.reduceEqDiff, Nat.reduceAdd, Nat.reduceSub, Nat.reduceMul, Nat.reduceDiv, Nat.reduceMod, Nat.reduceLeDiff, Nat.reduceLT, Nat.reduceBEq, Int.reduceEq, Int.reduceBEq, Int.reduceBNe, Int.reduceLT, Int.reduceLE, Int.reduceAdd, Int.reduceSub, Int.reduceNeg, Int.reduceToNat, Int.reducePow, Nat.reducePow, Int.reduceMul, Int.reduceDiv, ↓s_stats_Counter_Add, hf, l1, ↓enterK_eq e1, enterK_eq e1, a1, a2, a3, a4, l2, Bool.not_true, Bool.not_false]
      rfl
    · (repeat (first | exact Fr.refl _ | refine Fr.push ?_ _ | refine Fr.set ?_ _ _ (by intro h; first | omega | (simp only [go_sem] at h; omega))))
theorem q_cAdd_none (s : ByteArray) (hs : asciiB s = true) (hn : namedB s = true) (h : Cnt H c mb E tot) : CC F.stats_Counter_Add [.pointer (some ⟨c, 0, none⟩), .string s, .int .i64 0] H = some (.int .i64 0, H) := by
  have e1 := q_named s H hs
  rw [hn] at e1
  have hf := h.f
  have hm := h.m
  obtain ⟨z, is, l1⟩ : ∃ z is, xlookup Try.prog T.map_string_int (.map (some mb)) (.string s) true H = some (.tuple #[z, .bool is]) := by
    cases hk : lkp E s with
    | none => exact ⟨_, _, look_none mt hm (ent_of E) hk true⟩
    | some a =>
      obtain ⟨v1, l1, _⟩ := look_some mt hm (ent_of E) hk true
      exact ⟨_, _, l1⟩
  apply pure_of _ (d_stats_Counter_Add _ _ _ H) rfl
  rotate_left 2
  · simp (disch := first | with_reducible rfl | assumption | omega | rfl | (simp only [go_sem]; first | done | omega)) only [go_sem, ↓reduceIte, reduceCtorEq, Nat.reduceEqDiff, Nat.reduceAdd, Nat.reduceSub, Nat.reduceMul, Nat.reduceDiv, Nat.reduceMod, Nat.reduceLeDiff, Nat.reduceLT, Nat.reduceBEq, Int.reduceEq, Int.reduceBEq, Int.reduceBNe, Int.reduceLT, Int.reduceLE, Int.reduceAdd, Int.reduceSub, Int.reduceNeg, Int.reduceToNat, Int.reducePow, Nat.reducePow, Int.reduceMul, Int.reduceDiv, ↓s_stats_Counter_Add, hf, l1, ↓enterK_eq e1, enterK_eq e1, Bool.not_true, Bool.not_false]
    rfl
  · (repeat (first | exact Fr.refl _ | refine Fr.push ?_ _ | refine Fr.set ?_ _ _ (by intro h; first | omega | (simp only [go_sem] at h; omega))))

theorem strs_of : ∀ {E : Ec}, (∀ p ∈ E, p.1.size ≤ 1000) → strs (entsOf E) = some (E.map fun p => p.1.data.toList)
  | [], _ => rfl
  | p :: E, h => by
    have h1 := h p (by simp)
    have ih := strs_of (E := E) fun q hq => h q (by simp [hq])
    show ((keyStr (.string p.1)).bind fun s => (strs (entsOf E)).map (s :: ·)) = _
    rw [ih]
    unfold keyStr
    simp only [h1, if_true, Option.bind_some, Option.map_some, List.map_cons]
theorem q_Names (h : Cnt H c mb E tot) (hE : ∀ p ∈ E, p.1.size ≤ 1000) (hne : E ≠ []) (hlen : E.length ≤ 1000000) : ∃ v H', CC F.stats_Counter_Names [.pointer (some ⟨c, 0, none⟩)] H = some (v, H') ∧ lenS v = some (.int .i64 (E.length : Int)) ∧ Still H H' := by
  have hk := strs_of hE
  have hp : prims1 F.stats_Counter_Names = some namesP := by kernel_rfl
  have hkn : (E.map fun p => p.1.data.toList).isEmpty = false := by cases E with | nil => exact absurd rfl hne | cons _ _ => rfl
  have hl : (entsOf E).length ≤ 1000000 := by unfold entsOf; rw [List.length_map]; exact hlen
  have hne' : ¬ (E.map fun p => p.1.data.toList).isEmpty = true := by rw [hkn]; decide
  have hf := h.f
  have hm := h.m
  have e : namesP [.pointer (some ⟨c, 0, none⟩)] H = some (.slice (some ⟨H.n, 0, none⟩) (E.map fun p => p.1.data.toList).length (2 * (E.map fun p => p.1.data.toList).length + 1), H.push (.cells ((sortS (E.map fun p => p.1.data.toList)).map fun s => .string ⟨s.toArray⟩) 9 true)) := by
    unfold namesP
    simp only [hf, List.getElem?_cons_zero, hm, hk]
    rw [if_pos hl, if_neg hne']
  exact ⟨_, _, D_prim hp e, by rw [lenS_s, List.length_map], (Fr.refl H).push _⟩
end

end Go.Proofs.Ytplblfcofplcmaa

/-
  Chapter 26: labels are names.
  Conditions: none. By an AI agent.
-/
set_option maxRecDepth 10000
set_option linter.unusedSimpArgs false
set_option linter.unusedVariables false
namespace Go.Proofs.Ytplblfcofplcmaa
open Go Eng

def lb (i : Nat) : List UInt8 := [110, UInt8.ofNat (48 + i / 1000), UInt8.ofNat (48 + i / 100 % 10), UInt8.ofNat (48 + i / 10 % 10), UInt8.ofNat (48 + i % 10)]
def lab (i : Nat) : ByteArray := mk (lb i)
def unl (s : ByteArray) : Nat := match s.data.toList with
  | [_, a, b, c, d] => (a.toNat - 48) * 1000 + (b.toNat - 48) * 100 + (c.toNat - 48) * 10 + (d.toNat - 48)
  | _ => 0
theorem lab_ok : ∀ i : Fin 1002, (asciiB (lab i.val) && namedB (lab i.val) && decide (unl (lab i.val) = i.val)) = true := by decide +kernel
theorem lab_all {i : Nat} (h : i < 1002) : asciiB (lab i) = true ∧ namedB (lab i) = true ∧ unl (lab i) = i := by
  have := lab_ok ⟨i, h⟩
  simp only [Bool.and_eq_true, decide_eq_true_eq] at this
  exact ⟨this.1.1, this.1.2, this.2⟩

end Go.Proofs.Ytplblfcofplcmaa

/-
  The seat's functions as terms over the engine's combinators (a program of ours printed it).
  Conditions: none. By an AI agent.
-/
set_option linter.unusedVariables false
namespace Go.Proofs.Ytplblfcofplcmaa
open Go Eng

/-! ticketline.ticketlinelaw26.StatsFulls -/

noncomputable def s_law_StatsFulls (mg : GT) (mc : CT) (ms : ST) (P : Program) (C : CallF) (L0 : Value → Value → Value → Value → AHeap → K → Res) (a0 : Value) (a1 : Value) (H : AHeap) (K0 : K) : Res :=
bareK (xbin P .lss T.int (.tmp 10) (.const (.int .i64 998)) a0 (.int .i64 998)) H fun t11 h1 =>
mg t11 false (fun o1 => o1 a0 h1) h1 fun t13 h2 =>
mg t11 false (fun o2 => bareK (xbin P .gtr T.int (.tmp 13) (.const (.int .i64 1002)) t13 (.int .i64 1002)) h2 o2) h2 fun t14 h3 =>
pickK t11 (.bool true) t14 fun t15 =>
mg t15 false (fun o3 => o3 a1 h3) h3 fun t17 h4 =>
mg t15 false (fun o4 => bareK (xbin P .gtr T.uint16 (.tmp 17) (.const (.int .u16 1000)) t17 (.int .u16 1000)) h4 o4) h4 fun t18 h5 =>
pickK t15 (.bool true) t18 fun t19 =>
mc t19 (fun k5 => enterK C F.law_known [] h5 fun t20 h6 =>
k5 .ret [(4, t20)] h6) (fun k5 =>
k5 .normal [(0, a0), (1, a1)] h5) (seqK (fun tT h7 =>
bareK (bldS #[(.map none), (.int .i64 0)] [(0, 1), (1, 1)] []) h7 fun t21 h8 =>
bothK (newv T.stats_Counter t21 h8) fun t22 h9 =>
ms (fun k6 =>
L0 (get tT 0) (get tT 1) t22 (.int .i64 0) h9 (blkK [0, 1, 5] 0 k6)) (seqK (fun tT_1 h10 =>
nextK C h10 (xbuiltin P .min [T.int, T.int] [(get tT_1 0), (.int .i64 1000)] h10) fun t37 h11 =>
bareK (xbin P .sub T.int (.const (.int .i64 4611686018427387904)) (.tmp 38) (.int .i64 4611686018427387904) t37) h11 fun t39 h12 =>
bothK (xconv P T.uint16 T.int (get tT_1 1) h12) fun t41 h13 =>
bareK (xbin P .sub T.int (.tmp 39) (.tmp 41) t39 t41) h13 fun t42 h14 =>
enterK C F.stats_Counter_Total [(get tT_1 5)] h14 fun t44 h15 =>
bareK (xbin P .neq T.int (.tmp 44) (.tmp 45) t44 t37) h15 fun t46 h16 =>
mg t46 false (fun o7 => o7 (get tT_1 5) h16) h16 fun t48 h17 =>
mg t46 false (fun o8 => enterK C F.stats_Counter_Names [t48] h17 o8) h17 fun t49 h18 =>
mg t46 false (fun o9 => bareK (lenS t49) h18 o9) h18 fun t50 h19 =>
mg t46 false (fun o10 => o10 t37 h19) h19 fun t51 h20 =>
mg t46 false (fun o11 => bareK (xbin P .neq T.int (.tmp 50) (.tmp 51) t50 t51) h20 o11) h20 fun t52 h21 =>
pickK t46 (.bool true) t52 fun t53 =>
mg t53 false (fun o12 => o12 (get tT_1 5) h21) h21 fun t55 h22 =>
mg t53 false (fun o13 => enterK C F.law_label [(.int .i64 0)] h22 o13) h22 fun t56 h23 =>
mg t53 false (fun o14 => o14 t42 h23) h23 fun t57 h24 =>
mg t53 false (fun o15 => enterK C F.stats_Counter_Add [t55, t56, t57] h24 o15) h24 fun t58 h25 =>
mg t53 false (fun o16 => bareK (xbin P .neq T.api_Errno (.tmp 58) (.const (.int .i64 0)) t58 (.int .i64 0)) h25 o16) h25 fun t59 h26 =>
pickK t53 (.bool true) t59 fun t60 =>
mg t60 false (fun o17 => o17 (get tT_1 5) h26) h26 fun t62 h27 =>
mg t60 false (fun o18 => enterK C F.law_label [(.int .i64 0)] h27 o18) h27 fun t63 h28 =>
mg t60 false (fun o19 => enterK C F.stats_Counter_Get [t62, t63] h28 o19) h28 fun t64 h29 =>
mg t60 false (fun o20 => o20 t42 h29) h29 fun t65 h30 =>
mg t60 false (fun o21 => bareK (xbin P .add T.int (.tmp 65) (.const (.int .i64 1)) t65 (.int .i64 1)) h30 o21) h30 fun t66 h31 =>
mg t60 false (fun o22 => bareK (xbin P .neq T.int (.tmp 64) (.tmp 66) t64 t66) h31 o22) h31 fun t67 h32 =>
pickK t60 (.bool true) t67 fun t68 =>
mc t68 (fun k23 => k23 .ret [(4, (.bool false))] h32) (fun k23 =>
k23 .normal [(1, (get tT_1 1)), (5, (get tT_1 5))] h32) (seqK (fun tT_2 h33 =>
enterK C F.law_label [(.int .i64 1)] h33 fun t70 h34 =>
bothK (xconv P T.uint16 T.int (get tT_2 1) h34) fun t72 h35 =>
bareK (xbin P .add T.int (.tmp 72) (.const (.int .i64 1)) t72 (.int .i64 1)) h35 fun t73 h36 =>
enterK C F.stats_Counter_Add [(get tT_2 5), t70, t73] h36 fun t74 h37 =>
bareK (xbin P .eql T.api_Errno (.tmp 74) (.const (.int .i64 7)) t74 (.int .i64 7)) h37 fun t75 h38 =>
mg t75 true (fun o24 => o24 (get tT_2 5) h38) h38 fun t77 h39 =>
mg t75 true (fun o25 => enterK C F.law_label [(.int .i64 1)] h39 o25) h39 fun t78 h40 =>
mg t75 true (fun o26 => o26 (get tT_2 1) h40) h40 fun t79 h41 =>
mg t75 true (fun o27 => bothK (xconv P T.uint16 T.int t79 h41) o27) h41 fun t80 h42 =>
mg t75 true (fun o28 => enterK C F.stats_Counter_Add [t77, t78, t80] h42 o28) h42 fun t81 h43 =>
mg t75 true (fun o29 => bareK (xbin P .eql T.api_Errno (.tmp 81) (.const (.int .i64 0)) t81 (.int .i64 0)) h43 o29) h43 fun t82 h44 =>
pickK t75 t82 (.bool false) fun t83 =>
mg t83 true (fun o30 => o30 (get tT_2 5) h44) h44 fun t85 h45 =>
mg t83 true (fun o31 => enterK C F.stats_Counter_Total [t85] h45 o31) h45 fun t86 h46 =>
mg t83 true (fun o32 => bareK (xbin P .eql T.int (.tmp 86) (.const (.int .i64 4611686018427387904)) t86 (.int .i64 4611686018427387904)) h46 o32) h46 fun t87 h47 =>
pickK t83 t87 (.bool false) fun t88 =>
mg t88 true (fun o33 => enterK C F.law_known [] h47 o33) h47 fun t90 h48 =>
pickK t88 t90 (.bool false) fun t91 =>
K0 .ret [(4, t91)] h48) K0)) K0)) K0)

noncomputable def s_law_StatsFulls_b0 (mg : GT) (mc : CT) (ms : ST) (P : Program) (C : CallF) (L0 : Value → Value → Value → Value → AHeap → K → Res) (v0 : Value) (v1 : Value) (v5 : Value) (v6 : Value) (H : AHeap) (k : K) : Res :=
bareK (xbin P .lss T.int (.tmp 23) (.tmp 24) v6 v0) H fun t25 h10 =>
mc t25 (fun k7 => k7 .normal [(0, v0), (1, v1), (5, v5), (6, v6)] h10) (fun k7 =>
k7 (.exit 0) [(25, t25), (24, v0), (23, v6), (0, v0), (1, v1), (5, v5), (6, v6)] h10) (seqK (fun tT h11 =>
ms (fun k8 =>
bareK (xbin P .geq T.int (.tmp 28) (.const (.int .i64 1000)) (get tT 6) (.int .i64 1000)) h11 fun t29 h12 =>
mc t29 (fun k9 => k9 .normal [(0, (get tT 0)), (1, (get tT 1)), (5, (get tT 5)), (6, (get tT 6)), (7, (.int .i64 7))] h12) (fun k9 =>
k9 .normal [(0, (get tT 0)), (1, (get tT 1)), (5, (get tT 5)), (6, (get tT 6)), (7, (.int .i64 0))] h12) (seqK (fun tT_1 h13 =>
enterK C F.law_label [(get tT_1 6)] h13 fun t32 h14 =>
enterK C F.stats_Counter_Add [(get tT_1 5), t32, (.int .i64 1)] h14 fun t33 h15 =>
bareK (xbin P .neq T.api_Errno (.tmp 33) (.tmp 34) t33 (get tT_1 7)) h15 fun t35 h16 =>
mc t35 (fun k10 => k10 .ret [(4, (.bool false))] h16) (fun k10 =>
k10 .normal [(0, (get tT_1 0)), (1, (get tT_1 1)), (5, (get tT_1 5)), (6, (get tT_1 6))] h16) (blkK [0, 1, 5, 6] 1 k8)) (blkK [0, 1, 5, 6] 1 k8))) (seqK (fun tT_2 h17 =>
bareK (xbin P .add T.int (.tmp 26) (.const (.int .i64 1)) (get tT_2 6) (.int .i64 1)) h17 fun t27 h18 =>
k .normal [(0, (get tT_2 0)), (1, (get tT_2 1)), (5, (get tT_2 5)), (6, t27)] h18) (afterK [0, 1, 5, 6] k))) (afterK [0, 1, 5, 6] k))

theorem s_law_StatsFulls_eq (M : CombL) (C : CallF) (LP : LoopH) (a0 : Value) (a1 : Value) (H : AHeap) : dBodyL M Try.prog hints C LP F.law_StatsFulls [a0, a1] H = s_law_StatsFulls M.b.g M.c M.s Try.prog C (fun v0 v1 v5 v6 H k => loopL M Try.prog hints C LP F.law_StatsFulls 0 [(0, v0), (1, v1), (5, v5), (6, v6)] H k) a0 a1 H (endK Try.prog [.tmp 4]) := by kernel_rfl

theorem s_law_StatsFulls_b0_eq (M : CombL) (C : CallF) (LP : LoopH) (v0 : Value) (v1 : Value) (v5 : Value) (v6 : Value) (H : AHeap) (k : K) : bodyL M Try.prog hints C LP F.law_StatsFulls 0 [(0, v0), (1, v1), (5, v5), (6, v6)] H (afterK [0, 1, 5, 6] k) = s_law_StatsFulls_b0 M.b.g M.c M.s Try.prog C (fun v0 v1 v5 v6 H k => loopL M Try.prog hints C LP F.law_StatsFulls 0 [(0, v0), (1, v1), (5, v5), (6, v6)] H k) v0 v1 v5 v6 H k := by kernel_rfl

end Go.Proofs.Ytplblfcofplcmaa

/-
  The equations of the seat's functions over calls in the limit (a program of ours printed it).
  Conditions: none. By an AI agent.
-/
set_option linter.unusedVariables false
namespace Go.Proofs.Ytplblfcofplcmaa
open Go Eng

theorem u_uint16 : Try.prog.underlying T.uint16 = Try.prog.underlying 30 := rfl
@[go_sem] theorem x_uint16_int {n : Int} {H : AHeap} : xconv Try.prog T.uint16 T.int (.int .u16 n) H = some (.int .i64 (IntKind.wrap .i64 n), H) := xconv_int (P := Try.prog) (s := 30) (t := 3) Try.underlying30 Try.underlying3

noncomputable def l_law_StatsFulls_0 (v0 : Value) (v1 : Value) (v5 : Value) (v6 : Value) (H : AHeap) (k : K) : Res := loopL stdL Try.prog hints CC limLP F.law_StatsFulls 0 [(0, v0), (1, v1), (5, v5), (6, v6)] H k
theorem r_law_StatsFulls_0 (v0 : Value) (v1 : Value) (v5 : Value) (v6 : Value) (H : AHeap) (k : K) : l_law_StatsFulls_0 v0 v1 v5 v6 H k = s_law_StatsFulls_b0 guardK condL shareL Try.prog CC l_law_StatsFulls_0 v0 v1 v5 v6 H (seqK (fun T H => l_law_StatsFulls_0 (get T 0) (get T 1) (get T 5) (get T 6) H k) k) := ((loopL_next (by kernel_rfl) rfl H k).trans (s_law_StatsFulls_b0_eq stdL CC limLP v0 v1 v5 v6 H _)).trans (by kernel_rfl)
theorem d_law_StatsFulls (a0 : Value) (a1 : Value) (H : AHeap) {r : Value × AHeap} (h : s_law_StatsFulls guardK condL shareL Try.prog CC l_law_StatsFulls_0 a0 a1 H (endK Try.prog [.tmp 4]) = some r) : CC F.law_StatsFulls [a0, a1] H = some (tidy H r) := D_body (by kernel_rfl) ((s_law_StatsFulls_eq stdL CC limLP a0 a1 H).trans (Eq.trans (show s_law_StatsFulls stdL.b.g stdL.c stdL.s Try.prog CC (fun v0 v1 v5 v6 H k => loopL stdL Try.prog hints CC limLP F.law_StatsFulls 0 [(0, v0), (1, v1), (5, v5), (6, v6)] H k) a0 a1 H (endK Try.prog [.tmp 4]) = s_law_StatsFulls guardK condL shareL Try.prog CC l_law_StatsFulls_0 a0 a1 H (endK Try.prog [.tmp 4]) by kernel_rfl) h))

end Go.Proofs.Ytplblfcofplcmaa

/-
  Chapter 26: the law StatsFulls runs to true.
  Conditions: none. By an AI agent.
-/
set_option maxRecDepth 10000
set_option linter.unusedSimpArgs false
set_option linter.unusedVariables false
namespace Go.Proofs.Ytplblfcofplcmaa
open Go Eng
attribute [local congr] bareK_congr' bothK_congr' quietK_congr'

theorem lab_inj {i j : Nat} (hi : i < 1002) (hj : j < 1002) (h : lab i = lab j) : i = j := by
  rw [← (lab_all hi).2.2, h, (lab_all hj).2.2]

theorem cvb {H : AHeap} (n : Nat) (h : n ≤ 255) : xconv Try.prog T.int T.uint8 (.int .i64 (n : Int)) H = some (.int .u8 (n : Int), H) := by
  rw [show xconv Try.prog T.int T.uint8 (.int .i64 (n : Int)) H = _ from xconv_int Try.underlying3 Try.underlying5, wrap_u8 (by omega)]
theorem bc (n : Nat) (h : n < 200) : byteCell (UInt8.ofNat (48 + n)) = .int .u8 (48 + (n : Int)) := by
  unfold byteCell
  rw [UInt8.toNat_ofNat_of_lt' (show 48 + n < 256 by omega), Int.natCast_add]
  rfl

theorem q_label (i : Nat) (hi : i < 1002) (H : AHeap) : CC F.law_label [.int .i64 (i : Int)] H = some (.string (lab i), H) := by
  have d1 : ∀ ox oy, xbin Try.prog .quo T.int ox oy (.int .i64 (i : Int)) (.int .i64 1000) = some (.int .i64 ((i / 1000 : Nat) : Int)) := fun ox oy => quoN (b := 1000) (by decide) (by omega)
  have d2 : ∀ ox oy, xbin Try.prog .quo T.int ox oy (.int .i64 (i : Int)) (.int .i64 100) = some (.int .i64 ((i / 100 : Nat) : Int)) := fun ox oy => quoN (b := 100) (by decide) (by omega)
  have d3 : ∀ ox oy, xbin Try.prog .quo T.int ox oy (.int .i64 (i : Int)) (.int .i64 10) = some (.int .i64 ((i / 10 : Nat) : Int)) := fun ox oy => quoN (b := 10) (by decide) (by omega)
  have r : ∀ (k : Nat) ox oy, xbin Try.prog .rem T.int ox oy (.int .i64 (k : Int)) (.int .i64 10) = some (.int .i64 ((k % 10 : Nat) : Int)) := fun k ox oy => remN (b := 10) (by decide)
  have ad : ∀ (k : Nat) ox oy, k ≤ 200 → xbin Try.prog .add T.int ox oy (.int .i64 48) (.int .i64 (k : Int)) = some (.int .i64 (48 + (k : Int))) := fun k ox oy hk => add_i64 (by omega)
  obtain ⟨a, ha⟩ : ∃ a, i / 1000 = a := ⟨_, rfl⟩
  obtain ⟨b', hb⟩ : ∃ b, i / 100 = b := ⟨_, rfl⟩
  obtain ⟨c', hc⟩ : ∃ c, i / 10 = c := ⟨_, rfl⟩
  have ha2 : a ≤ 9 := by omega
  obtain ⟨b, hb'⟩ : ∃ b, b' % 10 = b := ⟨_, rfl⟩
  obtain ⟨c, hc'⟩ : ∃ c, c' % 10 = c := ⟨_, rfl⟩
  obtain ⟨d, hd'⟩ : ∃ d, i % 10 = d := ⟨_, rfl⟩
  have r1 := r b'
  have r2 := r c'
  have r3 := r i
  rw [hb'] at r1
  rw [hc'] at r2
  rw [hd'] at r3
  rw [ha] at d1
  rw [hb] at d2
  rw [hc] at d3
  have hlb : lb i = [110, UInt8.ofNat (48 + a), UInt8.ofNat (48 + b), UInt8.ofNat (48 + c), UInt8.ofNat (48 + d)] := by unfold lb; rw [ha, hb, hc, hb', hc', hd']
  obtain ⟨H1, hH1⟩ : ∃ H1, H.push (.cells [.int .u8 110, .int .u8 (48 + (a : Int)), .int .u8 (48 + (b : Int)), .int .u8 (48 + (c : Int)), .int .u8 (48 + (d : Int))] T.uint8 true) = H1 := ⟨_, rfl⟩
  have s1 : Still H H1 := by rw [← hH1]; exact (Fr.refl H).push _
  have n1 : H1.n = H.n + 1 := by rw [← hH1]; rfl
  have g1 : H1.f H.n = .cells (EB.cells (lb i)) T.uint8 true := by
    rw [EB_cells, hlb]
    simp only [List.map_cons, List.map_nil, bc a (by omega), bc b (by omega), bc c (by omega), bc d (by omega)]
    rw [← hH1]
    exact push_f_eq rfl
  have hr : Rd EB H1 (.slice (some ⟨H.n, 0, none⟩) 5 (2 * 5)) (lb i) := .inr (.inr ⟨H.n, 0, _, rfl, by unfold lb; simp, by omega, by rw [g1, EB_cells, hlb]; rfl⟩)
  have hcv : xconv Try.prog T.sl_uint8 T.string (.slice (some ⟨H.n, 0, none⟩) 5 10) H1 = some (.string (lab i), H1) := conv_bs Try.underlying43 Try.underlying5 Try.underlying9 hr
  have cb : ∀ (k : Nat) (H : AHeap), k ≤ 9 → xconv Try.prog T.int T.uint8 (.int .i64 (48 + (k : Int))) H = some (.int .u8 (48 + (k : Int)), H) := fun k H hk => by have := cvb (H := H) (48 + k) (by omega); rw [Int.natCast_add] at this; exact this
  apply pure_of _ (d_law_label _ H) rfl
  rotate_left 2
  · simp (disch := first | with_reducible rfl | assumption | omega | rfl | (simp only [go_sem]; first | done | omega)) only [go_sem, ↓reduceIte, reduceCtorEq, Nat.reduceEqDiff, Nat.reduceAdd, Nat.reduceSub, Nat.reduceMul, Nat.reduceDiv, Nat.reduceMod, Nat.reduceLeDiff, Nat.reduceLT, Nat.reduceBEq, Int.reduceEq, Int.reduceBEq, Int.reduceBNe, Int.reduceLT, Int.reduceLE, Int.reduceAdd, Int.reduceSub, Int.reduceNeg, Int.reduceToNat, Int.reducePow, Nat.reducePow, Int.reduceMul, Int.reduceDiv, ↓s_law_label, ↓d1, d1, ↓d2, d2, ↓d3, d3, ↓r1, r1, ↓r2, r2, ↓r3, r3, ↓ad a, ad a, ↓ad b, ad b, ↓ad c, ad c, ↓ad d, ad d, ↓cb a, cb a, ↓cb b, cb b, ↓cb c, cb c, ↓cb d, cb d, hH1, hcv]
    rfl
  · exact s1

end Go.Proofs.Ytplblfcofplcmaa

/-
  Chapter 26: the law StatsFulls runs to true.
  Conditions: none. By an AI agent.
-/
set_option maxRecDepth 10000
set_option linter.unusedSimpArgs false
set_option linter.unusedVariables false
namespace Go.Proofs.Ytplblfcofplcmaa
open Go Eng
attribute [local congr] bareK_congr' bothK_congr' quietK_congr'

def EkL (k : Nat) : Ec := (List.range k).map fun j => (lab j, 1)
theorem ek_succ (k : Nat) : EkL (k + 1) = EkL k ++ [(lab k, 1)] := by unfold EkL; rw [List.range_succ, List.map_append]; rfl
theorem ek_len (k : Nat) : (EkL k).length = k := by simp [EkL]
theorem ek_none : ∀ {k i : Nat}, k ≤ i → i < 1002 → lkp (EkL k) (lab i) = none
  | 0, i, _, _ => rfl
  | k + 1, i, h, hi => by
    rw [ek_succ, lkp_append, ek_none (by omega) hi]
    have : ¬ lab i = lab k := fun e => by have := lab_inj hi (by omega) e; omega
    simp [lkp, this]
theorem ek_some : ∀ {k i : Nat}, i < k → k ≤ 1002 → lkp (EkL k) (lab i) = some 1
  | 0, i, h, _ => by omega
  | k + 1, i, h, hk => by
    rw [ek_succ, lkp_append]
    by_cases e : i = k
    · subst e
      rw [ek_none (Nat.le_refl _) (by omega)]
      simp [lkp]
    · rw [ek_some (by omega) (by omega)]
      rfl
theorem ek_put {k : Nat} (h : k < 1002) : putE (EkL k) (lab k) 1 = EkL (k + 1) := by
  unfold putE has
  rw [ek_none (Nat.le_refl _) h, ek_succ]
  rfl

section
variable {c mb : Nat}
theorem l_fulls (many : Nat) (v1 : Value) (hm : many ≤ 1002) : ∀ (d i : Nat) (H : AHeap), i + d = many → 1 ≤ i → Cnt H c mb (EkL (min i 1000)) (min i 1000) →
    ∃ H', (∀ K, l_law_StatsFulls_0 (.int .i64 (many : Int)) v1 (.pointer (some ⟨c, 0, none⟩)) (.int .i64 (i : Int)) H (blkK [0, 1, 5] 0 K) = K .normal [(0, .int .i64 (many : Int)), (1, v1), (5, .pointer (some ⟨c, 0, none⟩))] H') ∧ Cnt H' c mb (EkL (min many 1000)) (min many 1000)
  | 0, i, H, hi, h1, hc => by
    obtain rfl : i = many := by omega
    refine ⟨H, fun K => ?_, hc⟩
    rw [r_law_StatsFulls_0]
    simp (disch := first | with_reducible rfl | assumption | omega | rfl | (simp only [go_sem]; first | done | omega)) only [go_sem, ↓reduceIte, reduceCtorEq, Nat.reduceEqDiff, Nat.reduceAdd, Nat.reduceSub, Nat.reduceMul, Nat.reduceDiv, Nat.reduceMod, Nat.reduceLeDiff, Nat.reduceLT, Nat.reduceBEq, Int.reduceEq, Int.reduceBEq, Int.reduceBNe, Int.reduceLT, Int.reduceLE, Int.reduceAdd, Int.reduceSub, Int.reduceNeg, Int.reduceToNat, Int.reducePow, Nat.reducePow, Int.reduceMul, Int.reduceDiv, ↓s_law_StatsFulls_b0, Int.lt_irrefl, decide_false]
  | d + 1, i, H, hi, h1, hc => by
    have hlt : (i : Int) < (many : Int) := by omega
    have hl := q_label i (by omega) H
    obtain ⟨b1, b2, b3⟩ := lab_all (i := i) (by omega)
    by_cases hg : 1000 ≤ i
    · have hg' : (1000 : Int) ≤ (i : Int) := by omega
      have e1 : min i 1000 = 1000 := by omega
      have e2 : min (i + 1) 1000 = 1000 := by omega
      rw [e1] at hc
      have ha := q_cAdd_full (lab i) 1 b1 b2 (by decide) (by decide) hc (by decide) (.inr ⟨ek_none hg (by omega), ek_len 1000⟩)
      have ha : CC F.stats_Counter_Add [.pointer (some ⟨c, 0, none⟩), .string (lab i), .int .i64 1] H = some (.int .i64 7, H) := ha
      obtain ⟨H', g1, g2⟩ := l_fulls many v1 hm d (i + 1) H (by omega) (by omega) (by rw [e2]; exact hc)
      refine ⟨H', fun K => ?_, g2⟩
      have ih := g1 K
      rw [Int.natCast_add] at ih
      rw [r_law_StatsFulls_0]
      simp (disch := first | with_reducible rfl | assumption | omega | rfl | (simp only [go_sem]; first | done | omega)) only [go_sem, ↓reduceIte, reduceCtorEq, Nat.reduceEqDiff, Nat.reduceAdd, Nat.reduceSub, Nat.reduceMul, Nat.reduceDiv, Nat.reduceMod, Nat.reduceLeDiff, Nat.reduceLT, Nat.reduceBEq, Int.reduceEq, Int.reduceBEq, Int.reduceBNe, Int.reduceLT, Int.reduceLE, Int.reduceAdd, Int.reduceSub, Int.reduceNeg, Int.reduceToNat, Int.reducePow, Nat.reducePow, Int.reduceMul, Int.reduceDiv, ↓s_law_StatsFulls_b0, hlt, hg', ↓enterK_eq hl, enterK_eq hl, ↓enterK_eq ha, enterK_eq ha]
      exact ih
    · have hg' : ¬ (1000 : Int) ≤ (i : Int) := by omega
      have e1 : min i 1000 = i := by omega
      have e2 : min (i + 1) 1000 = i + 1 := by omega
      rw [e1] at hc
      obtain ⟨H1, ha, hc1⟩ := q_cAdd (lab i) 1 0 b1 b2 (by decide) hc (by omega) (.inl ⟨ek_none (Nat.le_refl _) (by omega), rfl, by rw [ek_len]; omega⟩) (by decide)
      have ha : CC F.stats_Counter_Add [.pointer (some ⟨c, 0, none⟩), .string (lab i), .int .i64 1] H = some (.int .i64 0, H1) := ha
      rw [Nat.zero_add, ek_put (by omega)] at hc1
      obtain ⟨H', g1, g2⟩ := l_fulls many v1 hm d (i + 1) H1 (by omega) (by omega) (by rw [e2]; exact hc1)
      refine ⟨H', fun K => ?_, g2⟩
      have ih := g1 K
      rw [Int.natCast_add] at ih
      rw [r_law_StatsFulls_0]
      simp (disch := first | with_reducible rfl | assumption | omega | rfl | (simp only [go_sem]; first | done | omega)) only [go_sem, ↓reduceIte, reduceCtorEq, Nat.reduceEqDiff, Nat.reduceAdd, Nat.reduceSub, Nat.reduceMul, Nat.reduceDiv, Nat.reduceMod, Nat.reduceLeDiff, Nat.reduceLT, Nat.reduceBEq, Int.reduceEq, Int.reduceBEq, Int.reduceBNe, Int.reduceLT, Int.reduceLE, Int.reduceAdd, Int.reduceSub, Int.reduceNeg, Int.reduceToNat, Int.reducePow, Nat.reducePow, Int.reduceMul, Int.reduceDiv, ↓s_law_StatsFulls_b0, hlt, hg', ↓enterK_eq hl, enterK_eq hl, ↓enterK_eq ha, enterK_eq ha]
      exact ih
end

theorem cv16 {H : AHeap} (n : Nat) (h : n ≤ 65535) : xconv Try.prog T.uint16 T.int (.int .u16 (n : Int)) H = some (.int .i64 (n : Int), H) := by
  rw [show xconv Try.prog T.uint16 T.int (.int .u16 (n : Int)) H = _ from xconv_int Try.underlying30 Try.underlying3, wrap_i64 (by omega)]

theorem q_StatsFulls (many : Int) (less : Nat) (H : AHeap) (ok : ∀ b, H.ver b < H.clk) : ∃ H', CC F.law_StatsFulls [.int .i64 many, .int .u16 (less : Int)] H = some (.bool true, H') := by
  by_cases h1 : many < 998
  · refine any_of (H1 := H) (d_law_StatsFulls _ _ H ?_)
    simp (disch := first | with_reducible rfl | assumption | omega | rfl | (simp only [go_sem]; first | done | omega)) only [go_sem, ↓reduceIte, reduceCtorEq, Nat.reduceEqDiff, Nat.reduceAdd, Nat.reduceSub, Nat.reduceMul, Nat.reduceDiv, Nat.reduceMod, Nat.reduceLeDiff, Nat.reduceLT, Nat.reduceBEq, Int.reduceEq, Int.reduceBEq, Int.reduceBNe, Int.reduceLT, Int.reduceLE, Int.reduceAdd, Int.reduceSub, Int.reduceNeg, Int.reduceToNat, Int.reducePow, Nat.reducePow, Int.reduceMul, Int.reduceDiv, ↓s_law_StatsFulls, h1, e_known]
  by_cases h2 : 1002 < many
  · refine any_of (H1 := H) (d_law_StatsFulls _ _ H ?_)
    simp (disch := first | with_reducible rfl | assumption | omega | rfl | (simp only [go_sem]; first | done | omega)) only [go_sem, ↓reduceIte, reduceCtorEq, Nat.reduceEqDiff, Nat.reduceAdd, Nat.reduceSub, Nat.reduceMul, Nat.reduceDiv, Nat.reduceMod, Nat.reduceLeDiff, Nat.reduceLT, Nat.reduceBEq, Int.reduceEq, Int.reduceBEq, Int.reduceBNe, Int.reduceLT, Int.reduceLE, Int.reduceAdd, Int.reduceSub, Int.reduceNeg, Int.reduceToNat, Int.reducePow, Nat.reducePow, Int.reduceMul, Int.reduceDiv, ↓s_law_StatsFulls, h1, h2, e_known]
  by_cases h3 : 1000 < less
  · have h3' : (1000 : Int) < (less : Int) := by omega
    refine any_of (H1 := H) (d_law_StatsFulls _ _ H ?_)
    simp (disch := first | with_reducible rfl | assumption | omega | rfl | (simp only [go_sem]; first | done | omega)) only [go_sem, ↓reduceIte, reduceCtorEq, Nat.reduceEqDiff, Nat.reduceAdd, Nat.reduceSub, Nat.reduceMul, Nat.reduceDiv, Nat.reduceMod, Nat.reduceLeDiff, Nat.reduceLT, Nat.reduceBEq, Int.reduceEq, Int.reduceBEq, Int.reduceBNe, Int.reduceLT, Int.reduceLE, Int.reduceAdd, Int.reduceSub, Int.reduceNeg, Int.reduceToNat, Int.reducePow, Nat.reducePow, Int.reduceMul, Int.reduceDiv, ↓s_law_StatsFulls, h1, h2, h3', e_known]
  have h3' : ¬ (1000 : Int) < (less : Int) := by omega
  obtain ⟨many, rfl⟩ : ∃ k : Nat, many = (k : Int) := ⟨many.toNat, by omega⟩
  obtain ⟨c, hcn⟩ : ∃ c, H.n = c := ⟨_, rfl⟩
  obtain ⟨H1, hH1⟩ : ∃ H1, H.push (.cells [.map none, .int .i64 0] T.stats_Counter true) = H1 := ⟨_, rfl⟩
  have s1 : Still H H1 := by rw [← hH1]; exact (Fr.refl H).push _
  have n1 : H1.n = c + 1 := by rw [← hH1]; show H.n + 1 = _; omega
  have g1 : H1.f c = .cells [.map none, .int .i64 0] T.stats_Counter true := by rw [← hH1]; exact push_f_eq hcn.symm
  -- the first round
  obtain ⟨b1, b2, b3⟩ := lab_all (i := 0) (by decide)
  obtain ⟨H2, ha, hc1⟩ := q_cAdd0 (c := c) (lab 0) 1 b1 b2 (by decide) (by decide) (s1.ok ok) (by omega) g1
  have ha : CC F.stats_Counter_Add [.pointer (some ⟨c, 0, none⟩), .string (lab 0), .int .i64 1] H1 = some (.int .i64 0, H2) := ha
  obtain ⟨H3, gl, hc2⟩ := l_fulls many (.int .u16 (less : Int)) (by omega) (many - 1) 1 H2 (by omega) (Nat.le_refl _) hc1
  have hlt : (0 : Int) < (many : Int) := by omega
  have hl0 := q_label 0 (by decide) H1
  have hl0 : CC F.law_label [.int .i64 0] H1 = some (.string (lab 0), H1) := hl0
  have hloop : ∀ K, l_law_StatsFulls_0 (.int .i64 (many : Int)) (.int .u16 (less : Int)) (.pointer (some ⟨c, 0, none⟩)) (.int .i64 0) H1 (blkK [0, 1, 5] 0 K) = K .normal [(0, .int .i64 (many : Int)), (1, .int .u16 (less : Int)), (5, .pointer (some ⟨c, 0, none⟩))] H3 := fun K => by
    have ih := gl K
    rw [r_law_StatsFulls_0]
    simp (disch := first | with_reducible rfl | assumption | omega | rfl | (simp only [go_sem]; first | done | omega)) only [go_sem, ↓reduceIte, reduceCtorEq, Nat.reduceEqDiff, Nat.reduceAdd, Nat.reduceSub, Nat.reduceMul, Nat.reduceDiv, Nat.reduceMod, Nat.reduceLeDiff, Nat.reduceLT, Nat.reduceBEq, Int.reduceEq, Int.reduceBEq, Int.reduceBNe, Int.reduceLT, Int.reduceLE, Int.reduceAdd, Int.reduceSub, Int.reduceNeg, Int.reduceToNat, Int.reducePow, Nat.reducePow, Int.reduceMul, Int.reduceDiv, ↓s_law_StatsFulls_b0, hlt, ↓enterK_eq hl0, enterK_eq hl0, ↓enterK_eq ha, enterK_eq ha]
    exact ih
  -- behind the loop
  obtain ⟨n, hn⟩ : ∃ n, min many 1000 = n := ⟨_, rfl⟩
  rw [hn] at hc2
  have hnr : 998 ≤ n ∧ n ≤ 1000 := by omega
  have hmin : ∀ (ts : List TypeId) (H : AHeap), xbuiltin Try.prog .min ts [.int .i64 (many : Int), .int .i64 1000] H = some (.val (.int .i64 (n : Int)) H) := fun ts H => by
    rw [← hn]; exact minN (b := 1000)
  have ht := q_Total hc2.f
  obtain ⟨nv, H4, hnm, hnl, s4⟩ := q_Names hc2 (fun p hp => by obtain ⟨j, hj, rfl⟩ := List.mem_map.1 hp; show (mk (lb j)).size ≤ 1000; simp [mk, lb, ByteArray.size]) (by intro h; have := ek_len n; rw [h] at this; simp at this; omega) (by rw [ek_len]; omega)
  rw [ek_len] at hnl
  have hc4 : Cnt H4 c (H1.n) (EkL n) n := ⟨s4.ok hc2.ok, by rw [s4.f hc2.cn fun h => h]; exact hc2.f, by rw [s4.f hc2.mn fun h => h]; exact hc2.m, Nat.lt_of_lt_of_le hc2.cn s4.n, Nat.lt_of_lt_of_le hc2.mn s4.n, hc2.ne⟩
  obtain ⟨rest, hrest⟩ : ∃ rest, 4611686018427387904 - n - less = rest := ⟨_, rfl⟩
  have hrest' : (4611686018427387904 : Int) - (n : Int) - (less : Int) = (rest : Int) := by omega
  have hl4 := q_label 0 (by decide) H4
  have hl4 : CC F.law_label [.int .i64 0] H4 = some (.string (lab 0), H4) := hl4
  obtain ⟨H5, ha5, hc5⟩ := q_cAdd (lab 0) rest 1 b1 b2 (by omega) hc4 (by omega) (.inr (ek_some (by omega) (by omega))) (by omega)
  have hl5 := q_label 0 (by decide) H5
  have hl5 : CC F.law_label [.int .i64 0] H5 = some (.string (lab 0), H5) := hl5
  have hg5 := q_Get hc5 (s := lab 0) (a := 1 + rest) (by rw [lkp_put, if_pos rfl])
  obtain ⟨d1, d2, d3⟩ := lab_all (i := 1) (by decide)
  have hl6 := q_label 1 (by decide) H5
  have hl6 : CC F.law_label [.int .i64 1] H5 = some (.string (lab 1), H5) := hl6
  have ha6 := q_cAdd_full (lab 1) (less + 1) d1 d2 (by omega) (by omega) hc5 (by omega) (.inl (by omega))
  rw [Int.natCast_add] at ha6
  have ha6 : CC F.stats_Counter_Add [.pointer (some ⟨c, 0, none⟩), .string (lab 1), .int .i64 ((less : Int) + 1)] H5 = some (.int .i64 7, H5) := ha6
  have hk1 : lkp (putE (EkL n) (lab 0) (1 + rest)) (lab 1) = some 1 := by
    rw [lkp_put, if_neg (fun e => by have := lab_inj (by decide) (by decide) e; omega), ek_some (by omega) (by omega)]
  obtain ⟨H7, ha7, ht7⟩ : ∃ H7, CC F.stats_Counter_Add [.pointer (some ⟨c, 0, none⟩), .string (lab 1), .int .i64 (less : Int)] H5 = some (.int .i64 0, H7) ∧ H7.f c = .cells [.map (some H1.n), .int .i64 ((4611686018427387904 : Nat) : Int)] T.stats_Counter true := by
    by_cases hz : less = 0
    · subst hz
      refine ⟨H5, q_cAdd_none (lab 1) d1 d2 hc5, ?_⟩
      rw [hc5.f]
      congr 4
      omega
    · obtain ⟨H7, g1, g2⟩ := q_cAdd (lab 1) less 1 d1 d2 (by omega) hc5 (by omega) (.inr hk1) (by omega)
      refine ⟨H7, g1, ?_⟩
      rw [g2.f]
      congr 4
      omega
  have ht8 := q_Total ht7
  have ht8 : CC F.stats_Counter_Total [.pointer (some ⟨c, 0, none⟩)] H7 = some (.int .i64 4611686018427387904, H7) := ht8
  have hg5 : CC F.stats_Counter_Get [.pointer (some ⟨c, 0, none⟩), .string (lab 0)] H5 = some (.int .i64 ((rest : Int) + 1), H5) := by rw [hg5, Int.natCast_add, Int.add_comm]; rfl
  have cv := fun (H : AHeap) => cv16 (H := H) less (by omega)
  refine any_of (H1 := H7) (d_law_StatsFulls _ _ H ?_)
  simp (disch := first | with_reducible rfl | assumption | omega | rfl | (simp only [go_sem]; first | done | omega)) only [go_sem, ↓reduceIte, reduceCtorEq, Nat.reduceEqDiff, Nat.reduceAdd, Nat.reduceSub, Nat.reduceMul, Nat.reduceDiv, Nat.reduceMod, Nat.reduceLeDiff, Nat.reduceLT, Nat.reduceBEq, Int.reduceEq, Int.reduceBEq, Int.reduceBNe, Int.reduceLT, Int.reduceLE, Int.reduceAdd, Int.reduceSub, Int.reduceNeg, Int.reduceToNat, Int.reducePow, Nat.reducePow, Int.reduceMul, Int.reduceDiv, ↓s_law_StatsFulls, h1, h2, h3', hH1, hcn, hloop, ↓hmin, hmin, ↓cv, cv, hrest', ↓enterK_eq ht, enterK_eq ht, ↓enterK_eq hnm, enterK_eq hnm, hnl, ↓enterK_eq hl4, enterK_eq hl4, ↓enterK_eq ha5, enterK_eq ha5, ↓enterK_eq hl5, enterK_eq hl5, ↓enterK_eq hg5, enterK_eq hg5, ↓enterK_eq hl6, enterK_eq hl6, ↓enterK_eq ha6, enterK_eq ha6, ↓enterK_eq ha7, enterK_eq ha7, ↓enterK_eq ht8, enterK_eq ht8, e_known, decide_true]

theorem run_StatsFulls (a b : Int) (_ : (Lit.int .i64 a).wf = true) (hb : (Lit.int .u16 b).wf = true) : ∃ k H', dCall Try.prog prims1 hints k F.law_StatsFulls [.int .i64 a, .int .u16 b] H0 = some (.bool true, H') := by
  have hb' : 0 ≤ b ∧ b < 65536 := by simp [Lit.wf, IntKind.min, IntKind.max, IntKind.signed, IntKind.bits] at hb; omega
  obtain ⟨less, rfl⟩ : ∃ k : Nat, b = (k : Int) := ⟨b.toNat, by omega⟩
  obtain ⟨H', h⟩ := q_StatsFulls a less H0 (fun _ => by first | exact Nat.zero_lt_one | decide)
  obtain ⟨k, h⟩ := D_run h
  exact ⟨k, _, h⟩

end Go.Proofs.Ytplblfcofplcmaa

/-
  The law StatsFulls: for every input it returns true, and its input reads as it did.
  Conditions: none. By an AI agent.
-/
namespace Go.Proofs.Ytplblfcofplcmaa.statsFulls
open Go.ChangeShapes Go.WideShapes Go.ChangeAt Go.RowKit
open Go.ChangeMaps (open_string shut_string)
set_option linter.unusedVariables false
theorem own : ownKnob Try.prog.godebug = none := by kernel_rfl
set_option maxRecDepth 100000 in
theorem lifted (os : Os) (started : os.Started) (H : Type) (enc : TypeId × Value → H) :
    ReturnsInHanded {} Try.checked os 4 .any (Rows.statsFullsSpec.pre6 enc Try.prog Try.f4 Rows.statsFullsRow.domain false) (Rows.statsFullsSpec.post enc Try.prog Try.f4 false true false false) := by
  refine returnsInHanded_of_change_sized (C := Try.checked) own started (by kernel_rfl) Try.func4
    (ChangeSpec.witness6 (enc := enc) (C := Try.checked) false ⟨#[], #[.int .i64 0, .int .u16 0], []⟩ 8 (by kernel_rfl) (by kernel_rfl) (by kernel_rfl) (by kernel_rfl)) ?_
  intro W base args ds gs before hval0 hW hcnd hsz0 _
  have hsz : (DataW.weightsEach Try.prog (Try.f4.params.toList ++ Rows.statsFullsSpec.plain.varTypes Try.prog) (ds ++ gs)).all (· ≤ reachBytes) = true := hsz0
  have hval : ∀ (j : Nat) t v, Try.f4.params[j]? = some t → args[j]? = some v → Value.okWide Try.prog W .any base t v := hval0
  have hW' := hW
  obtain ⟨p, q, hA0, hV, rfl, hfz, hnd⟩ := hW
  have hA : DataW.TrodAll enc Try.prog W 0 (fun _ => true) true Try.f4.params.toList args.toList ds p := hA0
  rw [Try.params4] at hA hval hsz
  obtain ⟨v0, vs0, d0, ds0, p0, q0, hargs, rfl, rfl, h0, r0⟩ := trodAll_cons hA
  obtain ⟨v1, vs1, d1, ds1, p1, q1, rfl, rfl, rfl, h1, r1⟩ := trodAll_cons r0
  obtain ⟨rfl, rfl, rfl⟩ := trodAll_nil r1
  obtain rfl : args = #[v0, v1] := by cases args; simp_all
  obtain ⟨rfl, rfl⟩ := trodVars_none hV
  obtain ⟨a0, rfl, rfl, rfl, w0⟩ := open_int Try.underlying3 (hval 0 3 v0 rfl rfl) h0
  obtain ⟨a1, rfl, rfl, rfl, w1⟩ := open_int Try.underlying30 (hval 1 30 v1 rfl rfl) h1
  clear hA0 hval0 hsz0 hsz
  refine (Eng.law_calls0 (args := #[.int .i64 a0, .int .u16 a1]) prims1_ok mixed (fun _ hg => absurd hg List.not_mem_nil) rfl (run_StatsFulls a0 a1 w0 w1)).mono fun e W' ⟨he, bel⟩ => ?_
  subst he
  exact ⟨_, rfl, _, _, _, [], _, [], hW', trodAll_mk1 (shut_bool Try.underlying4 _), (trodAll_cons_mk (shut_int Try.underlying3 w0) (trodAll_cons_mk (shut_int Try.underlying30 w1) trodAll_mk0)), rfl, bel.frame _, fun h => by cases h⟩

theorem over : Rows.statsFullsRow.holds Try.pinned (OpenSpec.ofChange Rows.statsFullsSpec) :=
  OpenClaim.holds_of_wide 4 Try.f4 rfl rfl rfl rfl rfl rfl rfl ⟨rfl, rfl, rfl, rfl, rfl⟩ rfl rfl rfl rfl rfl (by kernel_rfl) Try.func4 (by kernel_rfl)
    (of_decide_eq_true (by kernel_rfl)) (by unfold Func.isWrapper; first | (rw [if_pos (by decide +kernel)]; kernel_rfl) | (rw [if_neg (by decide +kernel)]; exact ⟨rfl, rfl⟩))
    (fun os started H enc _ => lifted os started H enc)
theorem proved : Rows.StatsFullsSaid := over
#print axioms proved
end Go.Proofs.Ytplblfcofplcmaa.statsFulls
namespace Go.Proofs.Ytplblfcofplcmaa
/-- The row, under a short name, for the claim. -/
theorem statsFulls_holds : Rows.StatsFullsSaid := statsFulls.proved
end Go.Proofs.Ytplblfcofplcmaa
