/-
  5 texts in one (merge.py): A ShStatsBuckets DsStatsBuckets B LawStatsBuckets.
  Conditions: none. By an AI agent.
-/
import Derived.Test.YtplblfcofplcmaaQc3
import Derived.Test.YtplblfcofplcmaaChecked
import Derived.KernelRfl
import Derived.Test.YtplblfcofplcmaaRows
import Derived.WalkKit
import Derived.ProofKit
import Derived.OpenShut
import Derived.ShutString
import Derived.ChangeOld
import Derived.Below
import Derived.SizedLaws
import Derived.ChangeArms
import Derived.Carry

/-
  Chapter 26: the bucket of a number, the bounds of a bucket.
  Conditions: none. By an AI agent.
-/
set_option maxRecDepth 10000
set_option linter.unusedSimpArgs false
set_option linter.unusedVariables false
namespace Go.Proofs.Ytplblfcofplcmaa
open Go Eng

def lenN (x : Nat) : Nat := if x = 0 then 0 else Nat.log2 x + 1
theorem lenN_of {x b : Nat} (h1 : 2 ^ b ≤ x) (h2 : x < 2 ^ (b + 1)) : lenN x = b + 1 := by
  have hx : x ≠ 0 := by have := Nat.two_pow_pos b; omega
  unfold lenN
  rw [if_neg hx, (Nat.log2_eq_iff hx).2 ⟨h1, h2⟩]
theorem lenN_spec {x : Nat} (hx : x ≠ 0) : ∃ b, lenN x = b + 1 ∧ 2 ^ b ≤ x ∧ x < 2 ^ (b + 1) :=
  ⟨Nat.log2 x, by unfold lenN; rw [if_neg hx], ((Nat.log2_eq_iff hx).1 rfl).1, ((Nat.log2_eq_iff hx).1 rfl).2⟩
theorem lenN_div {x : Nat} (k : Nat) (h : 2 ^ k ≤ x) : lenN x = k + lenN (x / 2 ^ k) := by
  have hp := Nat.two_pow_pos k
  have hy : x / 2 ^ k ≠ 0 := by
    have : 1 ≤ x / 2 ^ k := (Nat.le_div_iff_mul_le hp).2 (by omega)
    omega
  obtain ⟨b, e, h1, h2⟩ := lenN_spec hy
  rw [e]
  have a1 : 2 ^ b * 2 ^ k ≤ x := (Nat.le_div_iff_mul_le hp).1 h1
  have a2 : x < 2 ^ (b + 1) * 2 ^ k := (Nat.div_lt_iff_lt_mul hp).1 h2
  rw [← Nat.pow_add] at a1 a2
  rw [show k + (b + 1) = (b + k) + 1 by omega]
  exact lenN_of a1 (by rw [show b + k + 1 = b + 1 + k by omega]; exact a2)

theorem tab8 : ∀ i : Fin 256, (bl (mk [0, 1, 2, 2, 3, 3, 3, 3, 4, 4, 4, 4, 4, 4, 4, 4, 5, 5, 5, 5, 5, 5, 5, 5, 5, 5, 5, 5, 5, 5, 5, 5, 6, 6, 6, 6, 6, 6, 6, 6, 6, 6, 6, 6, 6, 6, 6, 6, 6, 6, 6, 6, 6, 6, 6, 6, 6, 6, 6, 6, 6, 6, 6, 6, 7, 7, 7, 7, 7, 7, 7, 7, 7, 7, 7, 7, 7, 7, 7, 7, 7, 7, 7, 7, 7, 7, 7, 7, 7, 7, 7, 7, 7, 7, 7, 7, 7, 7, 7, 7, 7, 7, 7, 7, 7, 7, 7, 7, 7, 7, 7, 7, 7, 7, 7, 7, 7, 7, 7, 7, 7, 7, 7, 7, 7, 7, 7, 7, 8, 8, 8, 8, 8, 8, 8, 8, 8, 8, 8, 8, 8, 8, 8, 8, 8, 8, 8, 8, 8, 8, 8, 8, 8, 8, 8, 8, 8, 8, 8, 8, 8, 8, 8, 8, 8, 8, 8, 8, 8, 8, 8, 8, 8, 8, 8, 8, 8, 8, 8, 8, 8, 8, 8, 8, 8, 8, 8, 8, 8, 8, 8, 8, 8, 8, 8, 8, 8, 8, 8, 8, 8, 8, 8, 8, 8, 8, 8, 8, 8, 8, 8, 8, 8, 8, 8, 8, 8, 8, 8, 8, 8, 8, 8, 8, 8, 8, 8, 8, 8, 8, 8, 8, 8, 8, 8, 8, 8, 8, 8, 8, 8, 8, 8, 8, 8, 8, 8, 8, 8, 8, 8, 8, 8, 8, 8, 8]))[i.val]? = some (UInt8.ofNat (lenN i.val)) := by decide +kernel
theorem len8 : ∀ i : Fin 256, lenN i.val ≤ 8 := by decide +kernel
theorem idx_tab {s : ByteArray} {i : Int} (hs : ∀ i : Fin 256, (bl s)[i.val]? = some (UInt8.ofNat (lenN i.val))) (h : 0 ≤ i ∧ i < 256) : xindex Try.prog T.string (.string s) (.int .u8 i) = some (.int .u8 (lenN i.toNat)) := by
  have h0 := hs ⟨i.toNat, by omega⟩
  have h1 := len8 ⟨i.toNat, by omega⟩
  unfold xindex
  rw [show Try.prog.underlying T.string = some .string from Try.underlying9]
  simp only [h.1, if_true]
  rw [h0]
  simp only at h1
  simp only [Option.map_some, byteCell]
  congr 2
  rw [UInt8.toNat_ofNat']
  omega
theorem len8I {i : Int} (h : 0 ≤ i ∧ i < 256) : 0 ≤ (lenN i.toNat : Int) ∧ (lenN i.toNat : Int) ≤ 8 := by
  have h1 := len8 ⟨i.toNat, by omega⟩
  simp only at h1
  omega

theorem q_Len64 (x : Nat) (hx : x < 2199023255552) (H : AHeap) : CC F.math_bits_Len64 [.int .u64 (x : Int)] H = some (.int .i64 (lenN x), H) := by
  have ht := tab8
  have s32 : ∀ ox oy, xbin Try.prog .shr T.uint64 ox oy (.int .u64 (x : Int)) (.int .u64 32) = some (.int .u64 ((x : Int) / 4294967296)) := fun ox oy => shrP (by decide)
  have s16 : ∀ ox oy (y : Int), xbin Try.prog .shr T.uint64 ox oy (.int .u64 y) (.int .u64 16) = some (.int .u64 (y / 65536)) := fun ox oy y => shrP (by decide)
  have s8 : ∀ ox oy (y : Int), xbin Try.prog .shr T.uint64 ox oy (.int .u64 y) (.int .u64 8) = some (.int .u64 (y / 256)) := fun ox oy y => shrP (by decide)
  have cu : ∀ (y : Int) H, 0 ≤ y ∧ y < 256 → xconv Try.prog T.uint64 T.uint8 (.int .u64 y) H = some (.int .u8 y, H) := fun y H hy => by rw [show xconv Try.prog T.uint64 T.uint8 (.int .u64 y) H = _ from xconv_int Try.underlying48 Try.underlying5, wrap_u8 hy]
  have ci : ∀ (y : Int) H, 0 ≤ y ∧ y < 256 → xconv Try.prog T.uint8 T.int (.int .u8 y) H = some (.int .i64 y, H) := fun y H hy => by rw [show xconv Try.prog T.uint8 T.int (.int .u8 y) H = _ from xconv_int Try.underlying5 Try.underlying3, wrap_i64 (by omega)]
  by_cases h1 : 4294967296 ≤ x
  · have h1' : (4294967296 : Int) ≤ (x : Int) := by omega
    have h2' : ¬ (65536 : Int) ≤ (x : Int) / 4294967296 := by omega
    obtain ⟨R, hR⟩ : ∃ R, lenN x = R := ⟨_, rfl⟩
    have hR2 := hR; rw [lenN_div 32 h1] at hR2
    rw [hR]
    by_cases h3 : 256 ≤ x / 4294967296
    · have h3' : (256 : Int) ≤ (x : Int) / 4294967296 := by omega
      have hy : 0 ≤ (x : Int) / 4294967296 / 256 ∧ (x : Int) / 4294967296 / 256 < 256 := by omega
      have hz := len8I hy
      have e : lenN (x / 2 ^ 32) = 8 + lenN ((x : Int) / 4294967296 / 256).toNat := by rw [lenN_div 8 h3]; rfl
      apply pure_of _ (d_math_bits_Len64 _ H) rfl
      rotate_left 2
      · simp (disch := first | with_reducible rfl | assumption | omega | rfl | (simp only [go_sem]; first | done | omega)) only [go_sem, ↓reduceIte, reduceCtorEq, Nat.reduceEqDiff, Nat.reduceAdd, Nat.reduceSub, Nat.reduceMul, Nat.reduceDiv, Nat.reduceMod, Nat.reduceLeDiff, Nat.reduceLT, Nat.reduceBEq, Int.reduceEq, Int.reduceBEq, Int.reduceBNe, Int.reduceLT, Int.reduceLE, Int.reduceAdd, Int.reduceSub, Int.reduceNeg, Int.reduceToNat, Int.reducePow, Nat.reducePow, Int.reduceMul, Int.reduceDiv, ↓s_math_bits_Len64, s32, s8, cu, ci, idx_tab ht hy, h1', h2', h3', hy, hz]
        have hE : (R : Int) = 40 + (lenN ((x : Int) / 4294967296 / 256).toNat : Int) := by rw [e] at hR2; omega
        rw [hE]
      · (repeat (first | exact Fr.refl _ | refine Fr.push ?_ _ | refine Fr.set ?_ _ _ (by intro h; first | omega | (simp only [go_sem] at h; omega))))
    · have h3' : ¬ (256 : Int) ≤ (x : Int) / 4294967296 := by omega
      have hy : 0 ≤ (x : Int) / 4294967296 ∧ (x : Int) / 4294967296 < 256 := by omega
      have hz := len8I hy
      have e : lenN (x / 2 ^ 32) = lenN ((x : Int) / 4294967296).toNat := by congr 1
      apply pure_of _ (d_math_bits_Len64 _ H) rfl
      rotate_left 2
      · simp (disch := first | with_reducible rfl | assumption | omega | rfl | (simp only [go_sem]; first | done | omega)) only [go_sem, ↓reduceIte, reduceCtorEq, Nat.reduceEqDiff, Nat.reduceAdd, Nat.reduceSub, Nat.reduceMul, Nat.reduceDiv, Nat.reduceMod, Nat.reduceLeDiff, Nat.reduceLT, Nat.reduceBEq, Int.reduceEq, Int.reduceBEq, Int.reduceBNe, Int.reduceLT, Int.reduceLE, Int.reduceAdd, Int.reduceSub, Int.reduceNeg, Int.reduceToNat, Int.reducePow, Nat.reducePow, Int.reduceMul, Int.reduceDiv, ↓s_math_bits_Len64, s32, s8, cu, ci, idx_tab ht hy, h1', h2', h3', hy, hz]
        have hE : (R : Int) = 32 + (lenN ((x : Int) / 4294967296).toNat : Int) := by rw [e] at hR2; omega
        rw [hE]
      · (repeat (first | exact Fr.refl _ | refine Fr.push ?_ _ | refine Fr.set ?_ _ _ (by intro h; first | omega | (simp only [go_sem] at h; omega))))
  · have h1' : ¬ (4294967296 : Int) ≤ (x : Int) := by omega
    by_cases h2 : 65536 ≤ x
    · have h2' : (65536 : Int) ≤ (x : Int) := by omega
      obtain ⟨R, hR⟩ : ∃ R, lenN x = R := ⟨_, rfl⟩
      have hR2 := hR; rw [lenN_div 16 h2] at hR2
      rw [hR]
      by_cases h3 : 256 ≤ x / 65536
      · have h3' : (256 : Int) ≤ (x : Int) / 65536 := by omega
        have hy : 0 ≤ (x : Int) / 65536 / 256 ∧ (x : Int) / 65536 / 256 < 256 := by omega
        have hz := len8I hy
        have e : lenN (x / 2 ^ 16) = 8 + lenN ((x : Int) / 65536 / 256).toNat := by rw [lenN_div 8 h3]; rfl
        apply pure_of _ (d_math_bits_Len64 _ H) rfl
        rotate_left 2
        · simp (disch := first | with_reducible rfl | assumption | omega | rfl | (simp only [go_sem]; first | done | omega)) only [go_sem, ↓reduceIte, reduceCtorEq, Nat.reduceEqDiff, Nat.reduceAdd, Nat.reduceSub, Nat.reduceMul, Nat.reduceDiv, Nat.reduceMod, Nat.reduceLeDiff, Nat.reduceLT, Nat.reduceBEq, Int.reduceEq, Int.reduceBEq, Int.reduceBNe, Int.reduceLT, Int.reduceLE, Int.reduceAdd, Int.reduceSub, Int.reduceNeg, Int.reduceToNat, Int.reducePow, Nat.reducePow, Int.reduceMul, Int.reduceDiv, ↓s_math_bits_Len64, s16, s8, cu, ci, idx_tab ht hy, h1', h2', h3', hy, hz]
          have hE : (R : Int) = 24 + (lenN ((x : Int) / 65536 / 256).toNat : Int) := by rw [e] at hR2; omega
          rw [hE]
        · (repeat (first | exact Fr.refl _ | refine Fr.push ?_ _ | refine Fr.set ?_ _ _ (by intro h; first | omega | (simp only [go_sem] at h; omega))))
      · have h3' : ¬ (256 : Int) ≤ (x : Int) / 65536 := by omega
        have hy : 0 ≤ (x : Int) / 65536 ∧ (x : Int) / 65536 < 256 := by omega
        have hz := len8I hy
        have e : lenN (x / 2 ^ 16) = lenN ((x : Int) / 65536).toNat := by congr 1
        apply pure_of _ (d_math_bits_Len64 _ H) rfl
        rotate_left 2
        · simp (disch := first | with_reducible rfl | assumption | omega | rfl | (simp only [go_sem]; first | done | omega)) only [go_sem, ↓reduceIte, reduceCtorEq, Nat.reduceEqDiff, Nat.reduceAdd, Nat.reduceSub, Nat.reduceMul, Nat.reduceDiv, Nat.reduceMod, Nat.reduceLeDiff, Nat.reduceLT, Nat.reduceBEq, Int.reduceEq, Int.reduceBEq, Int.reduceBNe, Int.reduceLT, Int.reduceLE, Int.reduceAdd, Int.reduceSub, Int.reduceNeg, Int.reduceToNat, Int.reducePow, Nat.reducePow, Int.reduceMul, Int.reduceDiv, ↓s_math_bits_Len64, s16, s8, cu, ci, idx_tab ht hy, h1', h2', h3', hy, hz]
          have hE : (R : Int) = 16 + (lenN ((x : Int) / 65536).toNat : Int) := by rw [e] at hR2; omega
          rw [hE]
        · (repeat (first | exact Fr.refl _ | refine Fr.push ?_ _ | refine Fr.set ?_ _ _ (by intro h; first | omega | (simp only [go_sem] at h; omega))))
    · have h2' : ¬ (65536 : Int) ≤ (x : Int) := by omega
      by_cases h3 : 256 ≤ x
      · have h3' : (256 : Int) ≤ (x : Int) := by omega
        have hy : 0 ≤ (x : Int) / 256 ∧ (x : Int) / 256 < 256 := by omega
        have hz := len8I hy
        have e : lenN x = 8 + lenN ((x : Int) / 256).toNat := by rw [lenN_div 8 h3]; rfl
        apply pure_of _ (d_math_bits_Len64 _ H) rfl
        rotate_left 2
        · simp (disch := first | with_reducible rfl | assumption | omega | rfl | (simp only [go_sem]; first | done | omega)) only [go_sem, ↓reduceIte, reduceCtorEq, Nat.reduceEqDiff, Nat.reduceAdd, Nat.reduceSub, Nat.reduceMul, Nat.reduceDiv, Nat.reduceMod, Nat.reduceLeDiff, Nat.reduceLT, Nat.reduceBEq, Int.reduceEq, Int.reduceBEq, Int.reduceBNe, Int.reduceLT, Int.reduceLE, Int.reduceAdd, Int.reduceSub, Int.reduceNeg, Int.reduceToNat, Int.reducePow, Nat.reducePow, Int.reduceMul, Int.reduceDiv, ↓s_math_bits_Len64, s8, cu, ci, idx_tab ht hy, h1', h2', h3', hy, hz]
          have hE : ((lenN x : Nat) : Int) = 8 + (lenN ((x : Int) / 256).toNat : Int) := by rw [e]; omega
          rw [hE]
        · (repeat (first | exact Fr.refl _ | refine Fr.push ?_ _ | refine Fr.set ?_ _ _ (by intro h; first | omega | (simp only [go_sem] at h; omega))))
      · have h3' : ¬ (256 : Int) ≤ (x : Int) := by omega
        have hy : 0 ≤ (x : Int) ∧ (x : Int) < 256 := by omega
        have hz := len8I hy
        have e : lenN x = lenN (x : Int).toNat := by congr 1
        apply pure_of _ (d_math_bits_Len64 _ H) rfl
        rotate_left 2
        · simp (disch := first | with_reducible rfl | assumption | omega | rfl | (simp only [go_sem]; first | done | omega)) only [go_sem, ↓reduceIte, reduceCtorEq, Nat.reduceEqDiff, Nat.reduceAdd, Nat.reduceSub, Nat.reduceMul, Nat.reduceDiv, Nat.reduceMod, Nat.reduceLeDiff, Nat.reduceLT, Nat.reduceBEq, Int.reduceEq, Int.reduceBEq, Int.reduceBNe, Int.reduceLT, Int.reduceLE, Int.reduceAdd, Int.reduceSub, Int.reduceNeg, Int.reduceToNat, Int.reducePow, Nat.reducePow, Int.reduceMul, Int.reduceDiv, ↓s_math_bits_Len64, cu, ci, idx_tab ht hy, h1', h2', h3', hy, hz, Int.zero_add, Int.toNat_natCast]
          rfl
        · (repeat (first | exact Fr.refl _ | refine Fr.push ?_ _ | refine Fr.set ?_ _ _ (by intro h; first | omega | (simp only [go_sem] at h; omega))))

theorem q_Len (x : Nat) (hx : x < 2199023255552) (H : AHeap) : CC F.math_bits_Len [.int .u64 (x : Int)] H = some (.int .i64 (lenN x), H) := by
  apply pure_of _ (d_math_bits_Len _ H) rfl
  rotate_left 2
  · simp (disch := first | with_reducible rfl | assumption | omega | rfl | (simp only [go_sem]; first | done | omega)) only [go_sem, ↓reduceIte, reduceCtorEq, Nat.reduceEqDiff, Nat.reduceAdd, Nat.reduceSub, Nat.reduceMul, Nat.reduceDiv, Nat.reduceMod, Nat.reduceLeDiff, Nat.reduceLT, Nat.reduceBEq, Int.reduceEq, Int.reduceBEq, Int.reduceBNe, Int.reduceLT, Int.reduceLE, Int.reduceAdd, Int.reduceSub, Int.reduceNeg, Int.reduceToNat, Int.reducePow, Nat.reducePow, Int.reduceMul, Int.reduceDiv, ↓s_math_bits_Len, enterK_eq (q_Len64 x hx H)]
    rfl
  · (repeat (first | exact Fr.refl _ | refine Fr.push ?_ _ | refine Fr.set ?_ _ _ (by intro h; first | omega | (simp only [go_sem] at h; omega))))

theorem q_Bucket (x : Nat) (hx : x ≤ 1099511627776) (H : AHeap) : CC F.stats_Bucket [.int .i64 (x : Int)] H = some (.tuple ⟨[.int .i64 (lenN x), .int .i64 0]⟩, H) := by
  have h1 : ¬ (x : Int) < 0 := by omega
  have h2 : ¬ (1099511627776 : Int) < (x : Int) := by omega
  have cu : ∀ H, xconv Try.prog T.int T.uint (.int .i64 (x : Int)) H = some (.int .u64 (x : Int), H) := fun H => by rw [show xconv Try.prog T.int T.uint (.int .i64 (x : Int)) H = _ from xconv_int Try.underlying3 Try.underlying94, wrap_u64 (by omega)]
  apply pure_of _ (d_stats_Bucket _ H) rfl
  rotate_left 2
  · simp (disch := first | with_reducible rfl | assumption | omega | rfl | (simp only [go_sem]; first | done | omega)) only [go_sem, ↓reduceIte, reduceCtorEq, Nat.reduceEqDiff, Nat.reduceAdd, Nat.reduceSub, Nat.reduceMul, Nat.reduceDiv, Nat.reduceMod, Nat.reduceLeDiff, Nat.reduceLT, Nat.reduceBEq, Int.reduceEq, Int.reduceBEq, Int.reduceBNe, Int.reduceLT, Int.reduceLE, Int.reduceAdd, Int.reduceSub, Int.reduceNeg, Int.reduceToNat, Int.reducePow, Nat.reducePow, Int.reduceMul, Int.reduceDiv, ↓s_stats_Bucket, h1, h2, cu, enterK_eq (q_Len x (by omega) H)]
    rfl
  · (repeat (first | exact Fr.refl _ | refine Fr.push ?_ _ | refine Fr.set ?_ _ _ (by intro h; first | omega | (simp only [go_sem] at h; omega))))
theorem q_Bucket_bad (n : Int) (h : n < 0 ∨ 1099511627776 < n) (H : AHeap) : CC F.stats_Bucket [.int .i64 n] H = some (.tuple ⟨[.int .i64 0, .int .i64 2]⟩, H) := by
  by_cases h1 : n < 0
  · apply pure_of _ (d_stats_Bucket _ H) rfl
    rotate_left 2
    · simp (disch := first | with_reducible rfl | assumption | omega | rfl | (simp only [go_sem]; first | done | omega)) only [go_sem, ↓reduceIte, reduceCtorEq, Nat.reduceEqDiff, Nat.reduceAdd, Nat.reduceSub, Nat.reduceMul, Nat.reduceDiv, Nat.reduceMod, Nat.reduceLeDiff, Nat.reduceLT, Nat.reduceBEq, Int.reduceEq, Int.reduceBEq, Int.reduceBNe, Int.reduceLT, Int.reduceLE, Int.reduceAdd, Int.reduceSub, Int.reduceNeg, Int.reduceToNat, Int.reducePow, Nat.reducePow, Int.reduceMul, Int.reduceDiv, ↓s_stats_Bucket, h1]
      rfl
    · (repeat (first | exact Fr.refl _ | refine Fr.push ?_ _ | refine Fr.set ?_ _ _ (by intro h; first | omega | (simp only [go_sem] at h; omega))))
  · have h2 : 1099511627776 < n := by omega
    apply pure_of _ (d_stats_Bucket _ H) rfl
    rotate_left 2
    · simp (disch := first | with_reducible rfl | assumption | omega | rfl | (simp only [go_sem]; first | done | omega)) only [go_sem, ↓reduceIte, reduceCtorEq, Nat.reduceEqDiff, Nat.reduceAdd, Nat.reduceSub, Nat.reduceMul, Nat.reduceDiv, Nat.reduceMod, Nat.reduceLeDiff, Nat.reduceLT, Nat.reduceBEq, Int.reduceEq, Int.reduceBEq, Int.reduceBNe, Int.reduceLT, Int.reduceLE, Int.reduceAdd, Int.reduceSub, Int.reduceNeg, Int.reduceToNat, Int.reducePow, Nat.reducePow, Int.reduceMul, Int.reduceDiv, ↓s_stats_Bucket, h1, h2]
      rfl
    · (repeat (first | exact Fr.refl _ | refine Fr.push ?_ _ | refine Fr.set ?_ _ _ (by intro h; first | omega | (simp only [go_sem] at h; omega))))

def loN (b : Nat) : Nat := if b = 0 then 0 else 2 ^ (b - 1)
def hiN (b : Nat) : Nat := if b = 0 then 0 else min (2 ^ b - 1) 1099511627776

theorem pow41 {b : Nat} (h : b ≤ 41) : 2 ^ b ≤ 2199023255552 := Nat.pow_le_pow_right (by decide) h
theorem shl1 {b : Nat} (h : b ≤ 41) {ox oy : Operand} {i : Int} (hi : i = (b : Int)) : xbin Try.prog .shl T.int ox oy (.int .i64 1) (.int .i64 i) = some (.int .i64 ((2 ^ b : Nat) : Int)) := by
  subst hi
  have := pow41 h
  rw [shlP (by simp only [IntKind.bits]; omega)]
  have e : (1 : Int) * 2 ^ (b : Int).toNat = ((2 ^ b : Nat) : Int) := by rw [Int.one_mul, Int.toNat_natCast, Int.natCast_pow]; rfl
  rw [e]
  generalize 2 ^ b = q at *
  rw [wrap_i64 (by omega)]

theorem q_Bounds (b : Nat) (hb : b ≤ 41) (H : AHeap) : CC F.stats_Bounds [.int .i64 (b : Int)] H = some (.tuple ⟨[.int .i64 (loN b), .int .i64 (hiN b), .int .i64 0]⟩, H) := by
  have h1 : ¬ (b : Int) < 0 := by omega
  have h2 : ¬ (42 : Int) ≤ (b : Int) := by omega
  by_cases h0 : b = 0
  · subst h0
    apply pure_of _ (d_stats_Bounds _ H) rfl
    rotate_left 2
    · simp (disch := first | with_reducible rfl | assumption | omega | rfl | (simp only [go_sem]; first | done | omega)) only [go_sem, ↓reduceIte, reduceCtorEq, Nat.reduceEqDiff, Nat.reduceAdd, Nat.reduceSub, Nat.reduceMul, Nat.reduceDiv, Nat.reduceMod, Nat.reduceLeDiff, Nat.reduceLT, Nat.reduceBEq, Int.reduceEq, Int.reduceBEq, Int.reduceBNe, Int.reduceLT, Int.reduceLE, Int.reduceAdd, Int.reduceSub, Int.reduceNeg, Int.reduceToNat, Int.reducePow, Nat.reducePow, Int.reduceMul, Int.reduceDiv, ↓s_stats_Bounds, Int.natCast_zero, Int.lt_irrefl, decide_false]
      rfl
    · (repeat (first | exact Fr.refl _ | refine Fr.push ?_ _ | refine Fr.set ?_ _ _ (by intro h; first | omega | (simp only [go_sem] at h; omega))))
  · have h3 : ¬ (b : Int) = 0 := by omega
    have e1 := fun ox oy => shl1 (b := b - 1) (by omega) (ox := ox) (oy := oy) (i := (b : Int) - 1) (by omega)
    have e2 := fun ox oy => shl1 (b := b) hb (ox := ox) (oy := oy) rfl
    have p := pow41 hb
    have p0 := Nat.two_pow_pos b
    have hh : (hiN b : Int) = min (((2 ^ b : Nat) : Int) - 1) 1099511627776 := by unfold hiN; rw [if_neg h0]; omega
    have hl : (loN b : Int) = ((2 ^ (b - 1) : Nat) : Int) := by unfold loN; rw [if_neg h0]
    rw [hh, hl]
    generalize 2 ^ b = p2 at *
    apply pure_of _ (d_stats_Bounds _ H) rfl
    rotate_left 2
    · simp (disch := first | with_reducible rfl | assumption | omega | rfl | (simp only [go_sem]; first | done | omega)) only [go_sem, ↓reduceIte, reduceCtorEq, Nat.reduceEqDiff, Nat.reduceAdd, Nat.reduceSub, Nat.reduceMul, Nat.reduceDiv, Nat.reduceMod, Nat.reduceLeDiff, Nat.reduceLT, Nat.reduceBEq, Int.reduceEq, Int.reduceBEq, Int.reduceBNe, Int.reduceLT, Int.reduceLE, Int.reduceAdd, Int.reduceSub, Int.reduceNeg, Int.reduceToNat, Int.reducePow, Nat.reducePow, Int.reduceMul, Int.reduceDiv, ↓s_stats_Bounds, h1, h2, h3, e1, e2]
      rfl
    · (repeat (first | exact Fr.refl _ | refine Fr.push ?_ _ | refine Fr.set ?_ _ _ (by intro h; first | omega | (simp only [go_sem] at h; omega))))
theorem q_Bounds_bad (n : Int) (h : n < 0 ∨ 41 < n) (H : AHeap) : CC F.stats_Bounds [.int .i64 n] H = some (.tuple ⟨[.int .i64 0, .int .i64 0, .int .i64 2]⟩, H) := by
  by_cases h1 : n < 0
  · apply pure_of _ (d_stats_Bounds _ H) rfl
    rotate_left 2
    · simp (disch := first | with_reducible rfl | assumption | omega | rfl | (simp only [go_sem]; first | done | omega)) only [go_sem, ↓reduceIte, reduceCtorEq, Nat.reduceEqDiff, Nat.reduceAdd, Nat.reduceSub, Nat.reduceMul, Nat.reduceDiv, Nat.reduceMod, Nat.reduceLeDiff, Nat.reduceLT, Nat.reduceBEq, Int.reduceEq, Int.reduceBEq, Int.reduceBNe, Int.reduceLT, Int.reduceLE, Int.reduceAdd, Int.reduceSub, Int.reduceNeg, Int.reduceToNat, Int.reducePow, Nat.reducePow, Int.reduceMul, Int.reduceDiv, ↓s_stats_Bounds, h1]
      rfl
    · (repeat (first | exact Fr.refl _ | refine Fr.push ?_ _ | refine Fr.set ?_ _ _ (by intro h; first | omega | (simp only [go_sem] at h; omega))))
  · have h2 : 42 ≤ n := by omega
    apply pure_of _ (d_stats_Bounds _ H) rfl
    rotate_left 2
    · simp (disch := first | with_reducible rfl | assumption | omega | rfl | (simp only [go_sem]; first | done | omega)) only [go_sem, ↓reduceIte, reduceCtorEq, Nat.reduceEqDiff, Nat.reduceAdd, Nat.reduceSub, Nat.reduceMul, Nat.reduceDiv, Nat.reduceMod, Nat.reduceLeDiff, Nat.reduceLT, Nat.reduceBEq, Int.reduceEq, Int.reduceBEq, Int.reduceBNe, Int.reduceLT, Int.reduceLE, Int.reduceAdd, Int.reduceSub, Int.reduceNeg, Int.reduceToNat, Int.reducePow, Nat.reducePow, Int.reduceMul, Int.reduceDiv, ↓s_stats_Bounds, h1, h2]
      rfl
    · (repeat (first | exact Fr.refl _ | refine Fr.push ?_ _ | refine Fr.set ?_ _ _ (by intro h; first | omega | (simp only [go_sem] at h; omega))))

/-! ### the reference's -/
theorem l_rBounds (b : Nat) (hb : b ≤ 41) (H : AHeap) (k : K) : ∀ (d i n : Nat), i + d = b → 1 ≤ i → n * 2 ^ d ≤ 2199023255552 →
    l_ref26_Bounds_0 (.int .i64 (b : Int)) (.int .i64 (n : Int)) (.int .i64 (i : Int)) H (blkK [4] 0 k) = k .normal [(4, .int .i64 ((n * 2 ^ d : Nat) : Int))] H
  | 0, i, n, hi, h1, hn => by
    have h : ¬ (i : Int) < (b : Int) := by omega
    rw [r_ref26_Bounds_0]
    simp (disch := first | with_reducible rfl | assumption | omega | rfl | (simp only [go_sem]; first | done | omega)) only [go_sem, ↓reduceIte, reduceCtorEq, Nat.reduceEqDiff, Nat.reduceAdd, Nat.reduceSub, Nat.reduceMul, Nat.reduceDiv, Nat.reduceMod, Nat.reduceLeDiff, Nat.reduceLT, Nat.reduceBEq, Int.reduceEq, Int.reduceBEq, Int.reduceBNe, Int.reduceLT, Int.reduceLE, Int.reduceAdd, Int.reduceSub, Int.reduceNeg, Int.reduceToNat, Int.reducePow, Nat.reducePow, Int.reduceMul, Int.reduceDiv, ↓s_ref26_Bounds_b0, h, Nat.pow_zero, Nat.mul_one]
  | d + 1, i, n, hi, h1, hn => by
    have h : (i : Int) < (b : Int) := by omega
    have e : n * 2 ^ (d + 1) = 2 * n * 2 ^ d := by rw [Nat.pow_succ, Nat.mul_comm 2 n, Nat.mul_assoc, Nat.mul_comm 2]
    have hn2 : 2 * n ≤ 2199023255552 := Nat.le_trans (Nat.le_mul_of_pos_right _ (Nat.two_pow_pos d)) (by rw [← e]; exact hn)
    have ih := l_rBounds b hb H k d (i + 1) (2 * n) (by omega) (by omega) (by rw [← e]; exact hn)
    rw [← e] at ih
    rw [Int.natCast_add, Int.natCast_mul] at ih
    rw [r_ref26_Bounds_0]
    simp (disch := first | with_reducible rfl | assumption | omega | rfl | (simp only [go_sem]; first | done | omega)) only [go_sem, ↓reduceIte, reduceCtorEq, Nat.reduceEqDiff, Nat.reduceAdd, Nat.reduceSub, Nat.reduceMul, Nat.reduceDiv, Nat.reduceMod, Nat.reduceLeDiff, Nat.reduceLT, Nat.reduceBEq, Int.reduceEq, Int.reduceBEq, Int.reduceBNe, Int.reduceLT, Int.reduceLE, Int.reduceAdd, Int.reduceSub, Int.reduceNeg, Int.reduceToNat, Int.reducePow, Nat.reducePow, Int.reduceMul, Int.reduceDiv, ↓s_ref26_Bounds_b0, h]
    exact ih
theorem q_rBounds (b : Nat) (hb : b ≤ 41) (H : AHeap) : CC F.ref26_Bounds [.int .i64 (b : Int)] H = some (.tuple ⟨[.int .i64 (loN b), .int .i64 (hiN b)]⟩, H) := by
  by_cases h0 : b = 0
  · subst h0
    apply pure_of _ (d_ref26_Bounds _ H) rfl
    rotate_left 2
    · simp (disch := first | with_reducible rfl | assumption | omega | rfl | (simp only [go_sem]; first | done | omega)) only [go_sem, ↓reduceIte, reduceCtorEq, Nat.reduceEqDiff, Nat.reduceAdd, Nat.reduceSub, Nat.reduceMul, Nat.reduceDiv, Nat.reduceMod, Nat.reduceLeDiff, Nat.reduceLT, Nat.reduceBEq, Int.reduceEq, Int.reduceBEq, Int.reduceBNe, Int.reduceLT, Int.reduceLE, Int.reduceAdd, Int.reduceSub, Int.reduceNeg, Int.reduceToNat, Int.reducePow, Nat.reducePow, Int.reduceMul, Int.reduceDiv, ↓s_ref26_Bounds, Int.natCast_zero]
      rfl
    · (repeat (first | exact Fr.refl _ | refine Fr.push ?_ _ | refine Fr.set ?_ _ _ (by intro h; first | omega | (simp only [go_sem] at h; omega))))
  · have h3 : ¬ (b : Int) = 0 := by omega
    have p := pow41 (b := b - 1) (by omega)
    have hl := l_rBounds b hb H
    have hp : 2 ^ b = 2 * 2 ^ (b - 1) := by rw [← Nat.pow_succ']; congr 1; omega
    have hh : (hiN b : Int) = min (2 * ((2 ^ (b - 1) : Nat) : Int) - 1) 1099511627776 := by
      have := Nat.two_pow_pos (b - 1)
      unfold hiN
      rw [if_neg h0, hp]
      clear hl
      generalize 2 ^ (b - 1) = q at *
      omega
    have hl' : (loN b : Int) = ((2 ^ (b - 1) : Nat) : Int) := by unfold loN; rw [if_neg h0]
    have hlp := pow41 hb
    rw [hh, hl']
    have hL : ∀ k, l_ref26_Bounds_0 (.int .i64 (b : Int)) (.int .i64 1) (.int .i64 1) H (blkK [4] 0 k) = k .normal [(4, .int .i64 ((2 ^ (b - 1) : Nat) : Int))] H := fun k => by
      have := l_rBounds b hb H k (b - 1) 1 1 (by omega) (Nat.le_refl _) (by omega)
      rw [Nat.one_mul] at this
      exact this
    generalize 2 ^ (b - 1) = p2 at *
    apply pure_of _ (d_ref26_Bounds _ H) rfl
    rotate_left 2
    · simp (disch := first | with_reducible rfl | assumption | omega | rfl | (simp only [go_sem]; first | done | omega)) only [go_sem, ↓reduceIte, reduceCtorEq, Nat.reduceEqDiff, Nat.reduceAdd, Nat.reduceSub, Nat.reduceMul, Nat.reduceDiv, Nat.reduceMod, Nat.reduceLeDiff, Nat.reduceLT, Nat.reduceBEq, Int.reduceEq, Int.reduceBEq, Int.reduceBNe, Int.reduceLT, Int.reduceLE, Int.reduceAdd, Int.reduceSub, Int.reduceNeg, Int.reduceToNat, Int.reducePow, Nat.reducePow, Int.reduceMul, Int.reduceDiv, ↓s_ref26_Bounds, h3, hL]
      rfl
    · (repeat (first | exact Fr.refl _ | refine Fr.push ?_ _ | refine Fr.set ?_ _ _ (by intro h; first | omega | (simp only [go_sem] at h; omega))))

theorem in_bucket {x b : Nat} (hx : x ≤ 1099511627776) (hb : b ≤ 41) : (loN b ≤ x ∧ x ≤ hiN b) ↔ lenN x = b := by
  unfold loN hiN
  by_cases h0 : b = 0
  · subst h0
    simp only [if_true]
    constructor
    · intro h
      have : x = 0 := by omega
      subst this; rfl
    · intro h
      unfold lenN at h
      by_cases hx0 : x = 0
      · omega
      · rw [if_neg hx0] at h; omega
  · rw [if_neg h0, if_neg h0]
    obtain ⟨c, rfl⟩ : ∃ c, b = c + 1 := ⟨b - 1, by omega⟩
    rw [Nat.add_sub_cancel]
    have hp := Nat.two_pow_pos (c + 1)
    constructor
    · rintro ⟨h1, h2⟩
      exact lenN_of h1 (by omega)
    · intro h
      by_cases hx0 : x = 0
      · subst hx0; cases h
      · obtain ⟨c', e, h1, h2⟩ := lenN_spec hx0
        obtain rfl : c = c' := by omega
        exact ⟨h1, by omega⟩
theorem lenN_le {x : Nat} (hx : x ≤ 1099511627776) : lenN x ≤ 41 := by
  by_cases hx0 : x = 0
  · subst hx0; decide
  · obtain ⟨c, e, h1, h2⟩ := lenN_spec hx0
    have : c < 41 := by
      by_cases h : c < 41
      · exact h
      · exfalso
        have := Nat.pow_le_pow_right (n := 2) (by decide) (show 41 ≤ c by omega)
        omega
    omega

theorem l_rBucket (x : Nat) (hx : x ≤ 1099511627776) (H : AHeap) (k : K) : ∀ (d b : Nat), b + d = lenN x →
    l_ref26_Bucket_0 (.int .i64 (x : Int)) (.int .i64 (b : Int)) H (blkK [] 0 (seqK (fun _ h2 => k .ret [(2, .int .i64 (-1))] h2) k)) = k .ret [(2, .int .i64 (lenN x))] H
  | 0, b, hd => by
    have hb : b ≤ 41 := by have := lenN_le hx; omega
    have h : (b : Int) < 42 := by omega
    have hin := (in_bucket hx hb).2 (by omega)
    have h1 : ((loN b : Nat) : Int) ≤ (x : Int) := by omega
    have h2 : (x : Int) ≤ ((hiN b : Nat) : Int) := by omega
    have e : lenN x = b := by omega
    rw [r_ref26_Bucket_0, e]
    simp (disch := first | with_reducible rfl | assumption | omega | rfl | (simp only [go_sem]; first | done | omega)) only [go_sem, ↓reduceIte, reduceCtorEq, Nat.reduceEqDiff, Nat.reduceAdd, Nat.reduceSub, Nat.reduceMul, Nat.reduceDiv, Nat.reduceMod, Nat.reduceLeDiff, Nat.reduceLT, Nat.reduceBEq, Int.reduceEq, Int.reduceBEq, Int.reduceBNe, Int.reduceLT, Int.reduceLE, Int.reduceAdd, Int.reduceSub, Int.reduceNeg, Int.reduceToNat, Int.reducePow, Nat.reducePow, Int.reduceMul, Int.reduceDiv, ↓s_ref26_Bucket_b0, h, enterK_eq (q_rBounds b hb H), h1, h2]
  | d + 1, b, hd => by
    have hb : b ≤ 41 := by have := lenN_le hx; omega
    have h : (b : Int) < 42 := by omega
    have ih := l_rBucket x hx H k d (b + 1) (by omega)
    rw [Int.natCast_add] at ih
    have hin : ¬ (loN b ≤ x ∧ x ≤ hiN b) := fun h => by have := (in_bucket hx hb).1 h; omega
    rw [r_ref26_Bucket_0]
    by_cases h1 : loN b ≤ x
    · have h1' : ((loN b : Nat) : Int) ≤ (x : Int) := by omega
      have h2' : ¬ (x : Int) ≤ ((hiN b : Nat) : Int) := by omega
      simp (disch := first | with_reducible rfl | assumption | omega | rfl | (simp only [go_sem]; first | done | omega)) only [go_sem, ↓reduceIte, reduceCtorEq, Nat.reduceEqDiff, Nat.reduceAdd, Nat.reduceSub, Nat.reduceMul, Nat.reduceDiv, Nat.reduceMod, Nat.reduceLeDiff, Nat.reduceLT, Nat.reduceBEq, Int.reduceEq, Int.reduceBEq, Int.reduceBNe, Int.reduceLT, Int.reduceLE, Int.reduceAdd, Int.reduceSub, Int.reduceNeg, Int.reduceToNat, Int.reducePow, Nat.reducePow, Int.reduceMul, Int.reduceDiv, ↓s_ref26_Bucket_b0, h, enterK_eq (q_rBounds b hb H), h1', h2']
      exact ih
    · have h1' : ¬ ((loN b : Nat) : Int) ≤ (x : Int) := by omega
      simp (disch := first | with_reducible rfl | assumption | omega | rfl | (simp only [go_sem]; first | done | omega)) only [go_sem, ↓reduceIte, reduceCtorEq, Nat.reduceEqDiff, Nat.reduceAdd, Nat.reduceSub, Nat.reduceMul, Nat.reduceDiv, Nat.reduceMod, Nat.reduceLeDiff, Nat.reduceLT, Nat.reduceBEq, Int.reduceEq, Int.reduceBEq, Int.reduceBNe, Int.reduceLT, Int.reduceLE, Int.reduceAdd, Int.reduceSub, Int.reduceNeg, Int.reduceToNat, Int.reducePow, Nat.reducePow, Int.reduceMul, Int.reduceDiv, ↓s_ref26_Bucket_b0, h, enterK_eq (q_rBounds b hb H), h1']
      exact ih
theorem q_rBucket (x : Nat) (hx : x ≤ 1099511627776) (H : AHeap) : CC F.ref26_Bucket [.int .i64 (x : Int)] H = some (.int .i64 (lenN x), H) := by
  apply pure_of _ (d_ref26_Bucket _ H) rfl
  rotate_left 2
  · have := l_rBucket x hx H (endK Try.prog [.tmp 2]) (lenN x) 0 (by omega)
    simp (disch := first | with_reducible rfl | assumption | omega | rfl | (simp only [go_sem]; first | done | omega)) only [go_sem, ↓reduceIte, reduceCtorEq, Nat.reduceEqDiff, Nat.reduceAdd, Nat.reduceSub, Nat.reduceMul, Nat.reduceDiv, Nat.reduceMod, Nat.reduceLeDiff, Nat.reduceLT, Nat.reduceBEq, Int.reduceEq, Int.reduceBEq, Int.reduceBNe, Int.reduceLT, Int.reduceLE, Int.reduceAdd, Int.reduceSub, Int.reduceNeg, Int.reduceToNat, Int.reducePow, Nat.reducePow, Int.reduceMul, Int.reduceDiv, ↓s_ref26_Bucket]
    exact this
  · (repeat (first | exact Fr.refl _ | refine Fr.push ?_ _ | refine Fr.set ?_ _ _ (by intro h; first | omega | (simp only [go_sem] at h; omega))))

end Go.Proofs.Ytplblfcofplcmaa

/-
  The seat's functions as terms over the engine's combinators (a program of ours printed it).
  Conditions: none. By an AI agent.
-/
set_option linter.unusedVariables false
namespace Go.Proofs.Ytplblfcofplcmaa
open Go Eng

/-! ticketline.ticketlinelaw26.StatsBuckets -/

noncomputable def s_law_StatsBuckets (mg : GT) (mc : CT) (ms : ST) (P : Program) (C : CallF) (a0 : Value) (a1 : Value) (H : AHeap) (K0 : K) : Res :=
bareK (xbin P .lss T.int (.tmp 7) (.const (.int .i64 0)) a0 (.int .i64 0)) H fun t8 h1 =>
mg t8 false (fun o1 => o1 a0 h1) h1 fun t10 h2 =>
mg t8 false (fun o2 => bareK (xbin P .gtr T.int (.tmp 10) (.const (.int .i64 1099511627776)) t10 (.int .i64 1099511627776)) h2 o2) h2 fun t11 h3 =>
pickK t8 (.bool true) t11 fun t12 =>
mc t12 (fun k3 => enterK C F.law_bucket [a0, (.int .i64 0), (.int .i64 2)] h3 fun t14 h4 =>
bareK (xun P .not t14) h4 fun t15 h5 =>
mc t15 (fun k4 => k4 .ret [(4, (.bool false))] h5) (fun k4 =>
k4 .normal [(1, a1)] h5) (afterK [1] k3)) (fun k3 =>
enterK C F.ref26_Bucket [a0] h3 fun t18 h6 =>
enterK C F.law_bucket [a0, t18, (.int .i64 0)] h6 fun t19 h7 =>
bareK (xun P .not t19) h7 fun t20 h8 =>
mc t20 (fun k5 => k5 .ret [(4, (.bool false))] h8) (fun k5 =>
k5 .normal [(1, a1)] h8) (afterK [1] k3)) (seqK (fun tT h9 =>
bareK (xbin P .lss T.int (.tmp 21) (.const (.int .i64 0)) (get tT 1) (.int .i64 0)) h9 fun t22 h10 =>
mg t22 false (fun o6 => o6 (get tT 1) h10) h10 fun t24 h11 =>
mg t22 false (fun o7 => bareK (xbin P .gtr T.int (.tmp 24) (.const (.int .i64 41)) t24 (.int .i64 41)) h11 o7) h11 fun t25 h12 =>
pickK t22 (.bool true) t25 fun t26 =>
mc t26 (fun k8 => enterK C F.law_bounds [(get tT 1), (.int .i64 0), (.int .i64 0), (.int .i64 2)] h12 fun t28 h13 =>
mg t28 true (fun o9 => enterK C F.law_known [] h13 o9) h13 fun t30 h14 =>
pickK t28 t30 (.bool false) fun t31 =>
k8 .ret [(4, t31)] h14) (fun k8 =>
k8 .normal [(1, (get tT 1))] h12) (seqK (fun tT_1 h15 =>
enterK C F.ref26_Bounds [(get tT_1 1)] h15 fun t34 h16 =>
bareK (xextract t34 0) h16 fun t35 h17 =>
bareK (xextract t34 1) h17 fun t36 h18 =>
enterK C F.law_bounds [(get tT_1 1), t35, t36, (.int .i64 0)] h18 fun t40 h19 =>
mg t40 true (fun o10 => enterK C F.law_known [] h19 o10) h19 fun t42 h20 =>
pickK t40 t42 (.bool false) fun t43 =>
K0 .ret [(4, t43)] h20) K0)) K0)

theorem s_law_StatsBuckets_eq (M : CombL) (C : CallF) (LP : LoopH) (a0 : Value) (a1 : Value) (H : AHeap) : dBodyL M Try.prog hints C LP F.law_StatsBuckets [a0, a1] H = s_law_StatsBuckets M.b.g M.c M.s Try.prog C a0 a1 H (endK Try.prog [.tmp 4]) := by kernel_rfl

end Go.Proofs.Ytplblfcofplcmaa

/-
  The equations of the seat's functions over calls in the limit (a program of ours printed it).
  Conditions: none. By an AI agent.
-/
set_option linter.unusedVariables false
namespace Go.Proofs.Ytplblfcofplcmaa
open Go Eng



theorem d_law_StatsBuckets (a0 : Value) (a1 : Value) (H : AHeap) {r : Value × AHeap} (h : s_law_StatsBuckets guardK condL shareL Try.prog CC a0 a1 H (endK Try.prog [.tmp 4]) = some r) : CC F.law_StatsBuckets [a0, a1] H = some (tidy H r) := D_body (by kernel_rfl) ((s_law_StatsBuckets_eq stdL CC limLP a0 a1 H).trans (Eq.trans (show s_law_StatsBuckets stdL.b.g stdL.c stdL.s Try.prog CC a0 a1 H (endK Try.prog [.tmp 4]) = s_law_StatsBuckets guardK condL shareL Try.prog CC a0 a1 H (endK Try.prog [.tmp 4]) by kernel_rfl) h))

end Go.Proofs.Ytplblfcofplcmaa

/-
  Chapter 26: the law StatsBuckets runs to true.
  Conditions: none. By an AI agent.
-/
set_option maxRecDepth 10000
set_option linter.unusedSimpArgs false
set_option linter.unusedVariables false
namespace Go.Proofs.Ytplblfcofplcmaa
open Go Eng

theorem k_known (H : AHeap) : CC F.law_known [] H = some (.bool true, H) := D_prim (show prims1 F.law_known = some trueP by kernel_rfl) rfl
@[go_sem, go_sem ↓] theorem e_known {H : AHeap} {k : Value → AHeap → Res} : enterK CC F.law_known [] H k = k (.bool true) H := enterK_eq (k_known H)

theorem q_lbucket {n w e : Int} {H : AHeap} (h : CC F.stats_Bucket [.int .i64 n] H = some (.tuple ⟨[.int .i64 w, .int .i64 e]⟩, H)) : CC F.law_bucket [.int .i64 n, .int .i64 w, .int .i64 e] H = some (.bool true, H) := by
  apply pure_of _ (d_law_bucket _ _ _ H) rfl
  rotate_left 2
  · simp (disch := first | with_reducible rfl | assumption | omega | rfl | (simp only [go_sem]; first | done | omega)) only [go_sem, ↓reduceIte, reduceCtorEq, Nat.reduceEqDiff, Nat.reduceAdd, Nat.reduceSub, Nat.reduceMul, Nat.reduceDiv, Nat.reduceMod, Nat.reduceLeDiff, Nat.reduceLT, Nat.reduceBEq, Int.reduceEq, Int.reduceBEq, Int.reduceBNe, Int.reduceLT, Int.reduceLE, Int.reduceAdd, Int.reduceSub, Int.reduceNeg, Int.reduceToNat, Int.reducePow, Nat.reducePow, Int.reduceMul, Int.reduceDiv, ↓s_law_bucket, ↓enterK_eq h, enterK_eq h]
    rfl
  · (repeat (first | exact Fr.refl _ | refine Fr.push ?_ _ | refine Fr.set ?_ _ _ (by intro h; first | omega | (simp only [go_sem] at h; omega))))
theorem q_lbounds {n w w2 e : Int} {H : AHeap} (h : CC F.stats_Bounds [.int .i64 n] H = some (.tuple ⟨[.int .i64 w, .int .i64 w2, .int .i64 e]⟩, H)) : CC F.law_bounds [.int .i64 n, .int .i64 w, .int .i64 w2, .int .i64 e] H = some (.bool true, H) := by
  apply pure_of _ (d_law_bounds _ _ _ _ H) rfl
  rotate_left 2
  · simp (disch := first | with_reducible rfl | assumption | omega | rfl | (simp only [go_sem]; first | done | omega)) only [go_sem, ↓reduceIte, reduceCtorEq, Nat.reduceEqDiff, Nat.reduceAdd, Nat.reduceSub, Nat.reduceMul, Nat.reduceDiv, Nat.reduceMod, Nat.reduceLeDiff, Nat.reduceLT, Nat.reduceBEq, Int.reduceEq, Int.reduceBEq, Int.reduceBNe, Int.reduceLT, Int.reduceLE, Int.reduceAdd, Int.reduceSub, Int.reduceNeg, Int.reduceToNat, Int.reducePow, Nat.reducePow, Int.reduceMul, Int.reduceDiv, ↓s_law_bounds, ↓enterK_eq h, enterK_eq h]
    rfl
  · (repeat (first | exact Fr.refl _ | refine Fr.push ?_ _ | refine Fr.set ?_ _ _ (by intro h; first | omega | (simp only [go_sem] at h; omega))))

theorem q_StatsBuckets (n b : Int) (H : AHeap) : CC F.law_StatsBuckets [.int .i64 n, .int .i64 b] H = some (.bool true, H) := by
  have hB : ∀ (H : AHeap), b < 0 ∨ 41 < b → CC F.law_bounds [.int .i64 b, .int .i64 0, .int .i64 0, .int .i64 2] H = some (.bool true, H) := fun H h => q_lbounds (q_Bounds_bad b h H)
  have hG : ∀ (c : Nat) (H : AHeap), c ≤ 41 → b = (c : Int) → CC F.law_bounds [.int .i64 (c : Int), .int .i64 (loN c), .int .i64 (hiN c), .int .i64 0] H = some (.bool true, H) := fun c H h _ => q_lbounds (q_Bounds c h H)
  by_cases h1 : n < 0
  · have e1 := q_lbucket (q_Bucket_bad n (.inl h1) H)
    by_cases h3 : b < 0
    · apply pure_of _ (d_law_StatsBuckets _ _ H) rfl
      rotate_left 2
      · simp (disch := first | with_reducible rfl | assumption | omega | rfl | (simp only [go_sem]; first | done | omega)) only [go_sem, ↓reduceIte, reduceCtorEq, Nat.reduceEqDiff, Nat.reduceAdd, Nat.reduceSub, Nat.reduceMul, Nat.reduceDiv, Nat.reduceMod, Nat.reduceLeDiff, Nat.reduceLT, Nat.reduceBEq, Int.reduceEq, Int.reduceBEq, Int.reduceBNe, Int.reduceLT, Int.reduceLE, Int.reduceAdd, Int.reduceSub, Int.reduceNeg, Int.reduceToNat, Int.reducePow, Nat.reducePow, Int.reduceMul, Int.reduceDiv, ↓s_law_StatsBuckets, h1, h3, ↓enterK_eq e1, enterK_eq e1, enterK_eq (hB H (.inl h3))]
        rfl
      · (repeat (first | exact Fr.refl _ | refine Fr.push ?_ _ | refine Fr.set ?_ _ _ (by intro h; first | omega | (simp only [go_sem] at h; omega))))
    · by_cases h4 : 41 < b
      · apply pure_of _ (d_law_StatsBuckets _ _ H) rfl
        rotate_left 2
        · simp (disch := first | with_reducible rfl | assumption | omega | rfl | (simp only [go_sem]; first | done | omega)) only [go_sem, ↓reduceIte, reduceCtorEq, Nat.reduceEqDiff, Nat.reduceAdd, Nat.reduceSub, Nat.reduceMul, Nat.reduceDiv, Nat.reduceMod, Nat.reduceLeDiff, Nat.reduceLT, Nat.reduceBEq, Int.reduceEq, Int.reduceBEq, Int.reduceBNe, Int.reduceLT, Int.reduceLE, Int.reduceAdd, Int.reduceSub, Int.reduceNeg, Int.reduceToNat, Int.reducePow, Nat.reducePow, Int.reduceMul, Int.reduceDiv, ↓s_law_StatsBuckets, h1, h3, h4, ↓enterK_eq e1, enterK_eq e1, enterK_eq (hB H (.inr h4))]
          rfl
        · (repeat (first | exact Fr.refl _ | refine Fr.push ?_ _ | refine Fr.set ?_ _ _ (by intro h; first | omega | (simp only [go_sem] at h; omega))))
      · obtain ⟨c, rfl⟩ : ∃ c : Nat, b = (c : Int) := ⟨b.toNat, by omega⟩
        apply pure_of _ (d_law_StatsBuckets _ _ H) rfl
        rotate_left 2
        · simp (disch := first | with_reducible rfl | assumption | omega | rfl | (simp only [go_sem]; first | done | omega)) only [go_sem, ↓reduceIte, reduceCtorEq, Nat.reduceEqDiff, Nat.reduceAdd, Nat.reduceSub, Nat.reduceMul, Nat.reduceDiv, Nat.reduceMod, Nat.reduceLeDiff, Nat.reduceLT, Nat.reduceBEq, Int.reduceEq, Int.reduceBEq, Int.reduceBNe, Int.reduceLT, Int.reduceLE, Int.reduceAdd, Int.reduceSub, Int.reduceNeg, Int.reduceToNat, Int.reducePow, Nat.reducePow, Int.reduceMul, Int.reduceDiv, ↓s_law_StatsBuckets, h1, h3, h4, ↓enterK_eq e1, enterK_eq e1, enterK_eq (q_rBounds c (by omega) H), enterK_eq (hG c H (by omega) rfl)]
          rfl
        · (repeat (first | exact Fr.refl _ | refine Fr.push ?_ _ | refine Fr.set ?_ _ _ (by intro h; first | omega | (simp only [go_sem] at h; omega))))
  · by_cases h2 : 1099511627776 < n
    · have e1 := q_lbucket (q_Bucket_bad n (.inr h2) H)
      by_cases h3 : b < 0
      · apply pure_of _ (d_law_StatsBuckets _ _ H) rfl
        rotate_left 2
        · simp (disch := first | with_reducible rfl | assumption | omega | rfl | (simp only [go_sem]; first | done | omega)) only [go_sem, ↓reduceIte, reduceCtorEq, Nat.reduceEqDiff, Nat.reduceAdd, Nat.reduceSub, Nat.reduceMul, Nat.reduceDiv, Nat.reduceMod, Nat.reduceLeDiff, Nat.reduceLT, Nat.reduceBEq, Int.reduceEq, Int.reduceBEq, Int.reduceBNe, Int.reduceLT, Int.reduceLE, Int.reduceAdd, Int.reduceSub, Int.reduceNeg, Int.reduceToNat, Int.reducePow, Nat.reducePow, Int.reduceMul, Int.reduceDiv, ↓s_law_StatsBuckets, h1, h2, h3, ↓enterK_eq e1, enterK_eq e1, enterK_eq (hB H (.inl h3))]
          rfl
        · (repeat (first | exact Fr.refl _ | refine Fr.push ?_ _ | refine Fr.set ?_ _ _ (by intro h; first | omega | (simp only [go_sem] at h; omega))))
      · by_cases h4 : 41 < b
        · apply pure_of _ (d_law_StatsBuckets _ _ H) rfl
          rotate_left 2
          · simp (disch := first | with_reducible rfl | assumption | omega | rfl | (simp only [go_sem]; first | done | omega)) only [go_sem, ↓reduceIte, reduceCtorEq, Nat.reduceEqDiff, Nat.reduceAdd, Nat.reduceSub, Nat.reduceMul, Nat.reduceDiv, Nat.reduceMod, Nat.reduceLeDiff, Nat.reduceLT, Nat.reduceBEq, Int.reduceEq, Int.reduceBEq, Int.reduceBNe, Int.reduceLT, Int.reduceLE, Int.reduceAdd, Int.reduceSub, Int.reduceNeg, Int.reduceToNat, Int.reducePow, Nat.reducePow, Int.reduceMul, Int.reduceDiv, ↓s_law_StatsBuckets, h1, h2, h3, h4, ↓enterK_eq e1, enterK_eq e1, enterK_eq (hB H (.inr h4))]
            rfl
          · (repeat (first | exact Fr.refl _ | refine Fr.push ?_ _ | refine Fr.set ?_ _ _ (by intro h; first | omega | (simp only [go_sem] at h; omega))))
        · obtain ⟨c, rfl⟩ : ∃ c : Nat, b = (c : Int) := ⟨b.toNat, by omega⟩
          apply pure_of _ (d_law_StatsBuckets _ _ H) rfl
          rotate_left 2
          · simp (disch := first | with_reducible rfl | assumption | omega | rfl | (simp only [go_sem]; first | done | omega)) only [go_sem, ↓reduceIte, reduceCtorEq, Nat.reduceEqDiff, Nat.reduceAdd, Nat.reduceSub, Nat.reduceMul, Nat.reduceDiv, Nat.reduceMod, Nat.reduceLeDiff, Nat.reduceLT, Nat.reduceBEq, Int.reduceEq, Int.reduceBEq, Int.reduceBNe, Int.reduceLT, Int.reduceLE, Int.reduceAdd, Int.reduceSub, Int.reduceNeg, Int.reduceToNat, Int.reducePow, Nat.reducePow, Int.reduceMul, Int.reduceDiv, ↓s_law_StatsBuckets, h1, h2, h3, h4, ↓enterK_eq e1, enterK_eq e1, enterK_eq (q_rBounds c (by omega) H), enterK_eq (hG c H (by omega) rfl)]
            rfl
          · (repeat (first | exact Fr.refl _ | refine Fr.push ?_ _ | refine Fr.set ?_ _ _ (by intro h; first | omega | (simp only [go_sem] at h; omega))))
    · obtain ⟨x, rfl⟩ : ∃ x : Nat, n = (x : Int) := ⟨n.toNat, by omega⟩
      have e0 := q_rBucket x (by omega) H
      have e1 := q_lbucket (q_Bucket x (by omega) H)
      by_cases h3 : b < 0
      · apply pure_of _ (d_law_StatsBuckets _ _ H) rfl
        rotate_left 2
        · simp (disch := first | with_reducible rfl | assumption | omega | rfl | (simp only [go_sem]; first | done | omega)) only [go_sem, ↓reduceIte, reduceCtorEq, Nat.reduceEqDiff, Nat.reduceAdd, Nat.reduceSub, Nat.reduceMul, Nat.reduceDiv, Nat.reduceMod, Nat.reduceLeDiff, Nat.reduceLT, Nat.reduceBEq, Int.reduceEq, Int.reduceBEq, Int.reduceBNe, Int.reduceLT, Int.reduceLE, Int.reduceAdd, Int.reduceSub, Int.reduceNeg, Int.reduceToNat, Int.reducePow, Nat.reducePow, Int.reduceMul, Int.reduceDiv, ↓s_law_StatsBuckets, h1, h2, h3, ↓enterK_eq e0, enterK_eq e0, ↓enterK_eq e1, enterK_eq e1, enterK_eq (hB H (.inl h3))]
          rfl
        · (repeat (first | exact Fr.refl _ | refine Fr.push ?_ _ | refine Fr.set ?_ _ _ (by intro h; first | omega | (simp only [go_sem] at h; omega))))
      · by_cases h4 : 41 < b
        · apply pure_of _ (d_law_StatsBuckets _ _ H) rfl
          rotate_left 2
          · simp (disch := first | with_reducible rfl | assumption | omega | rfl | (simp only [go_sem]; first | done | omega)) only [go_sem, ↓reduceIte, reduceCtorEq, Nat.reduceEqDiff, Nat.reduceAdd, Nat.reduceSub, Nat.reduceMul, Nat.reduceDiv, Nat.reduceMod, Nat.reduceLeDiff, Nat.reduceLT, Nat.reduceBEq, Int.reduceEq, Int.reduceBEq, Int.reduceBNe, Int.reduceLT, Int.reduceLE, Int.reduceAdd, Int.reduceSub, Int.reduceNeg, Int.reduceToNat, Int.reducePow, Nat.reducePow, Int.reduceMul, Int.reduceDiv, ↓s_law_StatsBuckets, h1, h2, h3, h4, ↓enterK_eq e0, enterK_eq e0, ↓enterK_eq e1, enterK_eq e1, enterK_eq (hB H (.inr h4))]
            rfl
          · (repeat (first | exact Fr.refl _ | refine Fr.push ?_ _ | refine Fr.set ?_ _ _ (by intro h; first | omega | (simp only [go_sem] at h; omega))))
        · obtain ⟨c, rfl⟩ : ∃ c : Nat, b = (c : Int) := ⟨b.toNat, by omega⟩
          apply pure_of _ (d_law_StatsBuckets _ _ H) rfl
          rotate_left 2
          · simp (disch := first | with_reducible rfl | assumption | omega | rfl | (simp only [go_sem]; first | done | omega)) only [go_sem, ↓reduceIte, reduceCtorEq, Nat.reduceEqDiff, Nat.reduceAdd, Nat.reduceSub, Nat.reduceMul, Nat.reduceDiv, Nat.reduceMod, Nat.reduceLeDiff, Nat.reduceLT, Nat.reduceBEq, Int.reduceEq, Int.reduceBEq, Int.reduceBNe, Int.reduceLT, Int.reduceLE, Int.reduceAdd, Int.reduceSub, Int.reduceNeg, Int.reduceToNat, Int.reducePow, Nat.reducePow, Int.reduceMul, Int.reduceDiv, ↓s_law_StatsBuckets, h1, h2, h3, h4, ↓enterK_eq e0, enterK_eq e0, ↓enterK_eq e1, enterK_eq e1, enterK_eq (q_rBounds c (by omega) H), enterK_eq (hG c H (by omega) rfl)]
            rfl
          · (repeat (first | exact Fr.refl _ | refine Fr.push ?_ _ | refine Fr.set ?_ _ _ (by intro h; first | omega | (simp only [go_sem] at h; omega))))

theorem run_StatsBuckets (a b : Int) (_ : (Lit.int .i64 a).wf = true) (_ : (Lit.int .i64 b).wf = true) : ∃ k H', dCall Try.prog prims1 hints k F.law_StatsBuckets [.int .i64 a, .int .i64 b] H0 = some (.bool true, H') := by
  obtain ⟨k, h⟩ := D_run (q_StatsBuckets a b H0)
  exact ⟨k, _, h⟩

end Go.Proofs.Ytplblfcofplcmaa

/-
  The law StatsBuckets: for every input it returns true, and its input reads as it did.
  Conditions: none. By an AI agent.
-/
namespace Go.Proofs.Ytplblfcofplcmaa.statsBuckets
open Go.ChangeShapes Go.WideShapes Go.ChangeAt Go.RowKit
open Go.ChangeMaps (open_string shut_string)
set_option linter.unusedVariables false
theorem own : ownKnob Try.prog.godebug = none := by kernel_rfl
set_option maxRecDepth 100000 in
theorem lifted (os : Os) (started : os.Started) (H : Type) (enc : TypeId × Value → H) :
    ReturnsInHanded {} Try.checked os 3 .any (Rows.statsBucketsSpec.pre6 enc Try.prog Try.f3 Rows.statsBucketsRow.domain false) (Rows.statsBucketsSpec.post enc Try.prog Try.f3 false true false false) := by
  refine returnsInHanded_of_change_sized (C := Try.checked) own started (by kernel_rfl) Try.func3
    (ChangeSpec.witness6 (enc := enc) (C := Try.checked) false ⟨#[], #[.int .i64 0, .int .i64 0], []⟩ 8 (by kernel_rfl) (by kernel_rfl) (by kernel_rfl) (by kernel_rfl)) ?_
  intro W base args ds gs before hval0 hW hcnd hsz0 _
  have hsz : (DataW.weightsEach Try.prog (Try.f3.params.toList ++ Rows.statsBucketsSpec.plain.varTypes Try.prog) (ds ++ gs)).all (· ≤ reachBytes) = true := hsz0
  have hval : ∀ (j : Nat) t v, Try.f3.params[j]? = some t → args[j]? = some v → Value.okWide Try.prog W .any base t v := hval0
  have hW' := hW
  obtain ⟨p, q, hA0, hV, rfl, hfz, hnd⟩ := hW
  have hA : DataW.TrodAll enc Try.prog W 0 (fun _ => true) true Try.f3.params.toList args.toList ds p := hA0
  rw [Try.params3] at hA hval hsz
  obtain ⟨v0, vs0, d0, ds0, p0, q0, hargs, rfl, rfl, h0, r0⟩ := trodAll_cons hA
  obtain ⟨v1, vs1, d1, ds1, p1, q1, rfl, rfl, rfl, h1, r1⟩ := trodAll_cons r0
  obtain ⟨rfl, rfl, rfl⟩ := trodAll_nil r1
  obtain rfl : args = #[v0, v1] := by cases args; simp_all
  obtain ⟨rfl, rfl⟩ := trodVars_none hV
  obtain ⟨a0, rfl, rfl, rfl, w0⟩ := open_int Try.underlying3 (hval 0 3 v0 rfl rfl) h0
  obtain ⟨a1, rfl, rfl, rfl, w1⟩ := open_int Try.underlying3 (hval 1 3 v1 rfl rfl) h1
  clear hA0 hval0 hsz0 hsz
  refine (Eng.law_calls0 (args := #[.int .i64 a0, .int .i64 a1]) prims1_ok mixed (fun _ hg => absurd hg List.not_mem_nil) rfl (run_StatsBuckets a0 a1 w0 w1)).mono fun e W' ⟨he, bel⟩ => ?_
  subst he
  exact ⟨_, rfl, _, _, _, [], _, [], hW', trodAll_mk1 (shut_bool Try.underlying4 _), (trodAll_cons_mk (shut_int Try.underlying3 w0) (trodAll_cons_mk (shut_int Try.underlying3 w1) trodAll_mk0)), rfl, bel.frame _, fun h => by cases h⟩

theorem over : Rows.statsBucketsRow.holds Try.pinned (OpenSpec.ofChange Rows.statsBucketsSpec) :=
  OpenClaim.holds_of_wide 3 Try.f3 rfl rfl rfl rfl rfl rfl rfl ⟨rfl, rfl, rfl, rfl, rfl⟩ rfl rfl rfl rfl rfl (by kernel_rfl) Try.func3 (by kernel_rfl)
    (of_decide_eq_true (by kernel_rfl)) (by unfold Func.isWrapper; first | (rw [if_pos (by decide +kernel)]; kernel_rfl) | (rw [if_neg (by decide +kernel)]; exact ⟨rfl, rfl⟩))
    (fun os started H enc _ => lifted os started H enc)
theorem proved : Rows.StatsBucketsSaid := over
#print axioms proved
end Go.Proofs.Ytplblfcofplcmaa.statsBuckets
namespace Go.Proofs.Ytplblfcofplcmaa
/-- The row, under a short name, for the claim. -/
theorem statsBuckets_holds : Rows.StatsBucketsSaid := statsBuckets.proved
end Go.Proofs.Ytplblfcofplcmaa
