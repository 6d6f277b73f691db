/-
  18 texts in one (merge.py): A ShStatsBuckets DsStatsBuckets B Q Eng36 U V W Nb X Y Z ShStatsCounts DsStatsCounts Za Zb LawStatsCounts.
  Conditions: none. By an AI agent.
-/
import Derived.Test.YtplblfcofplcmaaQc3
import Derived.Test.YtplblfcofplcmaaChecked
import Derived.KernelRfl
import Derived.Test.YtplblfcofplcmaaRows
import Derived.WalkKit
import Derived.ProofKit
import Derived.OpenShut
import Derived.ShutString
import Derived.ChangeOld
import Derived.Below
import Derived.SizedLaws
import Derived.ChangeArms
import Derived.Carry

/-
  Chapter 26: the bucket of a number, the bounds of a bucket.
  Conditions: none. By an AI agent.
-/
set_option maxRecDepth 10000
set_option linter.unusedSimpArgs false
set_option linter.unusedVariables false
namespace Go.Proofs.Ytplblfcofplcmaa
open Go Eng

def lenN (x : Nat) : Nat := if x = 0 then 0 else Nat.log2 x + 1
theorem lenN_of {x b : Nat} (h1 : 2 ^ b ≤ x) (h2 : x < 2 ^ (b + 1)) : lenN x = b + 1 := by
  have hx : x ≠ 0 := by have := Nat.two_pow_pos b; omega
  unfold lenN
  rw [if_neg hx, (Nat.log2_eq_iff hx).2 ⟨h1, h2⟩]
theorem lenN_spec {x : Nat} (hx : x ≠ 0) : ∃ b, lenN x = b + 1 ∧ 2 ^ b ≤ x ∧ x < 2 ^ (b + 1) :=
  ⟨Nat.log2 x, by unfold lenN; rw [if_neg hx], ((Nat.log2_eq_iff hx).1 rfl).1, ((Nat.log2_eq_iff hx).1 rfl).2⟩
theorem lenN_div {x : Nat} (k : Nat) (h : 2 ^ k ≤ x) : lenN x = k + lenN (x / 2 ^ k) := by
  have hp := Nat.two_pow_pos k
  have hy : x / 2 ^ k ≠ 0 := by
    have : 1 ≤ x / 2 ^ k := (Nat.le_div_iff_mul_le hp).2 (by omega)
    omega
  obtain ⟨b, e, h1, h2⟩ := lenN_spec hy
  rw [e]
  have a1 : 2 ^ b * 2 ^ k ≤ x := (Nat.le_div_iff_mul_le hp).1 h1
  have a2 : x < 2 ^ (b + 1) * 2 ^ k := (Nat.div_lt_iff_lt_mul hp).1 h2
  rw [← Nat.pow_add] at a1 a2
  rw [show k + (b + 1) = (b + k) + 1 by omega]
  exact lenN_of a1 (by rw [show b + k + 1 = b + 1 + k by omega]; exact a2)

theorem tab8 : ∀ i : Fin 256, (bl (mk [0, 1, 2, 2, 3, 3, 3, 3, 4, 4, 4, 4, 4, 4, 4, 4, 5, 5, 5, 5, 5, 5, 5, 5, 5, 5, 5, 5, 5, 5, 5, 5, 6, 6, 6, 6, 6, 6, 6, 6, 6, 6, 6, 6, 6, 6, 6, 6, 6, 6, 6, 6, 6, 6, 6, 6, 6, 6, 6, 6, 6, 6, 6, 6, 7, 7, 7, 7, 7, 7, 7, 7, 7, 7, 7, 7, 7, 7, 7, 7, 7, 7, 7, 7, 7, 7, 7, 7, 7, 7, 7, 7, 7, 7, 7, 7, 7, 7, 7, 7, 7, 7, 7, 7, 7, 7, 7, 7, 7, 7, 7, 7, 7, 7, 7, 7, 7, 7, 7, 7, 7, 7, 7, 7, 7, 7, 7, 7, 8, 8, 8, 8, 8, 8, 8, 8, 8, 8, 8, 8, 8, 8, 8, 8, 8, 8, 8, 8, 8, 8, 8, 8, 8, 8, 8, 8, 8, 8, 8, 8, 8, 8, 8, 8, 8, 8, 8, 8, 8, 8, 8, 8, 8, 8, 8, 8, 8, 8, 8, 8, 8, 8, 8, 8, 8, 8, 8, 8, 8, 8, 8, 8, 8, 8, 8, 8, 8, 8, 8, 8, 8, 8, 8, 8, 8, 8, 8, 8, 8, 8, 8, 8, 8, 8, 8, 8, 8, 8, 8, 8, 8, 8, 8, 8, 8, 8, 8, 8, 8, 8, 8, 8, 8, 8, 8, 8, 8, 8, 8, 8, 8, 8, 8, 8, 8, 8, 8, 8, 8, 8, 8, 8, 8, 8, 8, 8]))[i.val]? = some (UInt8.ofNat (lenN i.val)) := by decide +kernel
theorem len8 : ∀ i : Fin 256, lenN i.val ≤ 8 := by decide +kernel
theorem idx_tab {s : ByteArray} {i : Int} (hs : ∀ i : Fin 256, (bl s)[i.val]? = some (UInt8.ofNat (lenN i.val))) (h : 0 ≤ i ∧ i < 256) : xindex Try.prog T.string (.string s) (.int .u8 i) = some (.int .u8 (lenN i.toNat)) := by
  have h0 := hs ⟨i.toNat, by omega⟩
  have h1 := len8 ⟨i.toNat, by omega⟩
  unfold xindex
  rw [show Try.prog.underlying T.string = some .string from Try.underlying9]
  simp only [h.1, if_true]
  rw [h0]
  simp only at h1
  simp only [Option.map_some, byteCell]
  congr 2
  rw [UInt8.toNat_ofNat']
  omega
theorem len8I {i : Int} (h : 0 ≤ i ∧ i < 256) : 0 ≤ (lenN i.toNat : Int) ∧ (lenN i.toNat : Int) ≤ 8 := by
  have h1 := len8 ⟨i.toNat, by omega⟩
  simp only at h1
  omega

theorem q_Len64 (x : Nat) (hx : x < 2199023255552) (H : AHeap) : CC F.math_bits_Len64 [.int .u64 (x : Int)] H = some (.int .i64 (lenN x), H) := by
  have ht := tab8
  have s32 : ∀ ox oy, xbin Try.prog .shr T.uint64 ox oy (.int .u64 (x : Int)) (.int .u64 32) = some (.int .u64 ((x : Int) / 4294967296)) := fun ox oy => shrP (by decide)
  have s16 : ∀ ox oy (y : Int), xbin Try.prog .shr T.uint64 ox oy (.int .u64 y) (.int .u64 16) = some (.int .u64 (y / 65536)) := fun ox oy y => shrP (by decide)
  have s8 : ∀ ox oy (y : Int), xbin Try.prog .shr T.uint64 ox oy (.int .u64 y) (.int .u64 8) = some (.int .u64 (y / 256)) := fun ox oy y => shrP (by decide)
  have cu : ∀ (y : Int) H, 0 ≤ y ∧ y < 256 → xconv Try.prog T.uint64 T.uint8 (.int .u64 y) H = some (.int .u8 y, H) := fun y H hy => by rw [show xconv Try.prog T.uint64 T.uint8 (.int .u64 y) H = _ from xconv_int Try.underlying48 Try.underlying5, wrap_u8 hy]
  have ci : ∀ (y : Int) H, 0 ≤ y ∧ y < 256 → xconv Try.prog T.uint8 T.int (.int .u8 y) H = some (.int .i64 y, H) := fun y H hy => by rw [show xconv Try.prog T.uint8 T.int (.int .u8 y) H = _ from xconv_int Try.underlying5 Try.underlying3, wrap_i64 (by omega)]
  by_cases h1 : 4294967296 ≤ x
  · have h1' : (4294967296 : Int) ≤ (x : Int) := by omega
    have h2' : ¬ (65536 : Int) ≤ (x : Int) / 4294967296 := by omega
    obtain ⟨R, hR⟩ : ∃ R, lenN x = R := ⟨_, rfl⟩
    have hR2 := hR; rw [lenN_div 32 h1] at hR2
    rw [hR]
    by_cases h3 : 256 ≤ x / 4294967296
    · have h3' : (256 : Int) ≤ (x : Int) / 4294967296 := by omega
      have hy : 0 ≤ (x : Int) / 4294967296 / 256 ∧ (x : Int) / 4294967296 / 256 < 256 := by omega
      have hz := len8I hy
      have e : lenN (x / 2 ^ 32) = 8 + lenN ((x : Int) / 4294967296 / 256).toNat := by rw [lenN_div 8 h3]; rfl
      apply pure_of _ (d_math_bits_Len64 _ H) rfl
      rotate_left 2
      · simp (disch := first | with_reducible rfl | assumption | omega | rfl | (simp only [go_sem]; first | done | omega)) only [go_sem, ↓reduceIte, reduceCtorEq, Nat.reduceEqDiff, Nat.reduceAdd, Nat.reduceSub, Nat.reduceMul, Nat.reduceDiv, Nat.reduceMod, Nat.reduceLeDiff, Nat.reduceLT, Nat.reduceBEq, Int.reduceEq, Int.reduceBEq, Int.reduceBNe, Int.reduceLT, Int.reduceLE, Int.reduceAdd, Int.reduceSub, Int.reduceNeg, Int.reduceToNat, Int.reducePow, Nat.reducePow, Int.reduceMul, Int.reduceDiv, ↓s_math_bits_Len64, s32, s8, cu, ci, idx_tab ht hy, h1', h2', h3', hy, hz]
        have hE : (R : Int) = 40 + (lenN ((x : Int) / 4294967296 / 256).toNat : Int) := by rw [e] at hR2; omega
        rw [hE]
      · (repeat (first | exact Fr.refl _ | refine Fr.push ?_ _ | refine Fr.set ?_ _ _ (by intro h; first | omega | (simp only [go_sem] at h; omega))))
    · have h3' : ¬ (256 : Int) ≤ (x : Int) / 4294967296 := by omega
      have hy : 0 ≤ (x : Int) / 4294967296 ∧ (x : Int) / 4294967296 < 256 := by omega
      have hz := len8I hy
      have e : lenN (x / 2 ^ 32) = lenN ((x : Int) / 4294967296).toNat := by congr 1
      apply pure_of _ (d_math_bits_Len64 _ H) rfl
      rotate_left 2
      · simp (disch := first | with_reducible rfl | assumption | omega | rfl | (simp only [go_sem]; first | done | omega)) only [go_sem, ↓reduceIte, reduceCtorEq, Nat.reduceEqDiff, Nat.reduceAdd, Nat.reduceSub, Nat.reduceMul, Nat.reduceDiv, Nat.reduceMod, Nat.reduceLeDiff, Nat.reduceLT, Nat.reduceBEq, Int.reduceEq, Int.reduceBEq, Int.reduceBNe, Int.reduceLT, Int.reduceLE, Int.reduceAdd, Int.reduceSub, Int.reduceNeg, Int.reduceToNat, Int.reducePow, Nat.reducePow, Int.reduceMul, Int.reduceDiv, ↓s_math_bits_Len64, s32, s8, cu, ci, idx_tab ht hy, h1', h2', h3', hy, hz]
        have hE : (R : Int) = 32 + (lenN ((x : Int) / 4294967296).toNat : Int) := by rw [e] at hR2; omega
        rw [hE]
      · (repeat (first | exact Fr.refl _ | refine Fr.push ?_ _ | refine Fr.set ?_ _ _ (by intro h; first | omega | (simp only [go_sem] at h; omega))))
  · have h1' : ¬ (4294967296 : Int) ≤ (x : Int) := by omega
    by_cases h2 : 65536 ≤ x
    · have h2' : (65536 : Int) ≤ (x : Int) := by omega
      obtain ⟨R, hR⟩ : ∃ R, lenN x = R := ⟨_, rfl⟩
      have hR2 := hR; rw [lenN_div 16 h2] at hR2
      rw [hR]
      by_cases h3 : 256 ≤ x / 65536
      · have h3' : (256 : Int) ≤ (x : Int) / 65536 := by omega
        have hy : 0 ≤ (x : Int) / 65536 / 256 ∧ (x : Int) / 65536 / 256 < 256 := by omega
        have hz := len8I hy
        have e : lenN (x / 2 ^ 16) = 8 + lenN ((x : Int) / 65536 / 256).toNat := by rw [lenN_div 8 h3]; rfl
        apply pure_of _ (d_math_bits_Len64 _ H) rfl
        rotate_left 2
        · simp (disch := first | with_reducible rfl | assumption | omega | rfl | (simp only [go_sem]; first | done | omega)) only [go_sem, ↓reduceIte, reduceCtorEq, Nat.reduceEqDiff, Nat.reduceAdd, Nat.reduceSub, Nat.reduceMul, Nat.reduceDiv, Nat.reduceMod, Nat.reduceLeDiff, Nat.reduceLT, Nat.reduceBEq, Int.reduceEq, Int.reduceBEq, Int.reduceBNe, Int.reduceLT, Int.reduceLE, Int.reduceAdd, Int.reduceSub, Int.reduceNeg, Int.reduceToNat, Int.reducePow, Nat.reducePow, Int.reduceMul, Int.reduceDiv, ↓s_math_bits_Len64, s16, s8, cu, ci, idx_tab ht hy, h1', h2', h3', hy, hz]
          have hE : (R : Int) = 24 + (lenN ((x : Int) / 65536 / 256).toNat : Int) := by rw [e] at hR2; omega
          rw [hE]
        · (repeat (first | exact Fr.refl _ | refine Fr.push ?_ _ | refine Fr.set ?_ _ _ (by intro h; first | omega | (simp only [go_sem] at h; omega))))
      · have h3' : ¬ (256 : Int) ≤ (x : Int) / 65536 := by omega
        have hy : 0 ≤ (x : Int) / 65536 ∧ (x : Int) / 65536 < 256 := by omega
        have hz := len8I hy
        have e : lenN (x / 2 ^ 16) = lenN ((x : Int) / 65536).toNat := by congr 1
        apply pure_of _ (d_math_bits_Len64 _ H) rfl
        rotate_left 2
        · simp (disch := first | with_reducible rfl | assumption | omega | rfl | (simp only [go_sem]; first | done | omega)) only [go_sem, ↓reduceIte, reduceCtorEq, Nat.reduceEqDiff, Nat.reduceAdd, Nat.reduceSub, Nat.reduceMul, Nat.reduceDiv, Nat.reduceMod, Nat.reduceLeDiff, Nat.reduceLT, Nat.reduceBEq, Int.reduceEq, Int.reduceBEq, Int.reduceBNe, Int.reduceLT, Int.reduceLE, Int.reduceAdd, Int.reduceSub, Int.reduceNeg, Int.reduceToNat, Int.reducePow, Nat.reducePow, Int.reduceMul, Int.reduceDiv, ↓s_math_bits_Len64, s16, s8, cu, ci, idx_tab ht hy, h1', h2', h3', hy, hz]
          have hE : (R : Int) = 16 + (lenN ((x : Int) / 65536).toNat : Int) := by rw [e] at hR2; omega
          rw [hE]
        · (repeat (first | exact Fr.refl _ | refine Fr.push ?_ _ | refine Fr.set ?_ _ _ (by intro h; first | omega | (simp only [go_sem] at h; omega))))
    · have h2' : ¬ (65536 : Int) ≤ (x : Int) := by omega
      by_cases h3 : 256 ≤ x
      · have h3' : (256 : Int) ≤ (x : Int) := by omega
        have hy : 0 ≤ (x : Int) / 256 ∧ (x : Int) / 256 < 256 := by omega
        have hz := len8I hy
        have e : lenN x = 8 + lenN ((x : Int) / 256).toNat := by rw [lenN_div 8 h3]; rfl
        apply pure_of _ (d_math_bits_Len64 _ H) rfl
        rotate_left 2
        · simp (disch := first | with_reducible rfl | assumption | omega | rfl | (simp only [go_sem]; first | done | omega)) only [go_sem, ↓reduceIte, reduceCtorEq, Nat.reduceEqDiff, Nat.reduceAdd, Nat.reduceSub, Nat.reduceMul, Nat.reduceDiv, Nat.reduceMod, Nat.reduceLeDiff, Nat.reduceLT, Nat.reduceBEq, Int.reduceEq, Int.reduceBEq, Int.reduceBNe, Int.reduceLT, Int.reduceLE, Int.reduceAdd, Int.reduceSub, Int.reduceNeg, Int.reduceToNat, Int.reducePow, Nat.reducePow, Int.reduceMul, Int.reduceDiv, ↓s_math_bits_Len64, s8, cu, ci, idx_tab ht hy, h1', h2', h3', hy, hz]
          have hE : ((lenN x : Nat) : Int) = 8 + (lenN ((x : Int) / 256).toNat : Int) := by rw [e]; omega
          rw [hE]
        · (repeat (first | exact Fr.refl _ | refine Fr.push ?_ _ | refine Fr.set ?_ _ _ (by intro h; first | omega | (simp only [go_sem] at h; omega))))
      · have h3' : ¬ (256 : Int) ≤ (x : Int) := by omega
        have hy : 0 ≤ (x : Int) ∧ (x : Int) < 256 := by omega
        have hz := len8I hy
        have e : lenN x = lenN (x : Int).toNat := by congr 1
        apply pure_of _ (d_math_bits_Len64 _ H) rfl
        rotate_left 2
        · simp (disch := first | with_reducible rfl | assumption | omega | rfl | (simp only [go_sem]; first | done | omega)) only [go_sem, ↓reduceIte, reduceCtorEq, Nat.reduceEqDiff, Nat.reduceAdd, Nat.reduceSub, Nat.reduceMul, Nat.reduceDiv, Nat.reduceMod, Nat.reduceLeDiff, Nat.reduceLT, Nat.reduceBEq, Int.reduceEq, Int.reduceBEq, Int.reduceBNe, Int.reduceLT, Int.reduceLE, Int.reduceAdd, Int.reduceSub, Int.reduceNeg, Int.reduceToNat, Int.reducePow, Nat.reducePow, Int.reduceMul, Int.reduceDiv, ↓s_math_bits_Len64, cu, ci, idx_tab ht hy, h1', h2', h3', hy, hz, Int.zero_add, Int.toNat_natCast]
          rfl
        · (repeat (first | exact Fr.refl _ | refine Fr.push ?_ _ | refine Fr.set ?_ _ _ (by intro h; first | omega | (simp only [go_sem] at h; omega))))

theorem q_Len (x : Nat) (hx : x < 2199023255552) (H : AHeap) : CC F.math_bits_Len [.int .u64 (x : Int)] H = some (.int .i64 (lenN x), H) := by
  apply pure_of _ (d_math_bits_Len _ H) rfl
  rotate_left 2
  · simp (disch := first | with_reducible rfl | assumption | omega | rfl | (simp only [go_sem]; first | done | omega)) only [go_sem, ↓reduceIte, reduceCtorEq, Nat.reduceEqDiff, Nat.reduceAdd, Nat.reduceSub, Nat.reduceMul, Nat.reduceDiv, Nat.reduceMod, Nat.reduceLeDiff, Nat.reduceLT, Nat.reduceBEq, Int.reduceEq, Int.reduceBEq, Int.reduceBNe, Int.reduceLT, Int.reduceLE, Int.reduceAdd, Int.reduceSub, Int.reduceNeg, Int.reduceToNat, Int.reducePow, Nat.reducePow, Int.reduceMul, Int.reduceDiv, ↓s_math_bits_Len, enterK_eq (q_Len64 x hx H)]
    rfl
  · (repeat (first | exact Fr.refl _ | refine Fr.push ?_ _ | refine Fr.set ?_ _ _ (by intro h; first | omega | (simp only [go_sem] at h; omega))))

theorem q_Bucket (x : Nat) (hx : x ≤ 1099511627776) (H : AHeap) : CC F.stats_Bucket [.int .i64 (x : Int)] H = some (.tuple ⟨[.int .i64 (lenN x), .int .i64 0]⟩, H) := by
  have h1 : ¬ (x : Int) < 0 := by omega
  have h2 : ¬ (1099511627776 : Int) < (x : Int) := by omega
  have cu : ∀ H, xconv Try.prog T.int T.uint (.int .i64 (x : Int)) H = some (.int .u64 (x : Int), H) := fun H => by rw [show xconv Try.prog T.int T.uint (.int .i64 (x : Int)) H = _ from xconv_int Try.underlying3 Try.underlying94, wrap_u64 (by omega)]
  apply pure_of _ (d_stats_Bucket _ H) rfl
  rotate_left 2
  · simp (disch := first | with_reducible rfl | assumption | omega | rfl | (simp only [go_sem]; first | done | omega)) only [go_sem, ↓reduceIte, reduceCtorEq, Nat.reduceEqDiff, Nat.reduceAdd, Nat.reduceSub, Nat.reduceMul, Nat.reduceDiv, Nat.reduceMod, Nat.reduceLeDiff, Nat.reduceLT, Nat.reduceBEq, Int.reduceEq, Int.reduceBEq, Int.reduceBNe, Int.reduceLT, Int.reduceLE, Int.reduceAdd, Int.reduceSub, Int.reduceNeg, Int.reduceToNat, Int.reducePow, Nat.reducePow, Int.reduceMul, Int.reduceDiv, ↓s_stats_Bucket, h1, h2, cu, enterK_eq (q_Len x (by omega) H)]
    rfl
  · (repeat (first | exact Fr.refl _ | refine Fr.push ?_ _ | refine Fr.set ?_ _ _ (by intro h; first | omega | (simp only [go_sem] at h; omega))))
theorem q_Bucket_bad (n : Int) (h : n < 0 ∨ 1099511627776 < n) (H : AHeap) : CC F.stats_Bucket [.int .i64 n] H = some (.tuple ⟨[.int .i64 0, .int .i64 2]⟩, H) := by
  by_cases h1 : n < 0
  · apply pure_of _ (d_stats_Bucket _ H) rfl
    rotate_left 2
    · simp (disch := first | with_reducible rfl | assumption | omega | rfl | (simp only [go_sem]; first | done | omega)) only [go_sem, ↓reduceIte, reduceCtorEq, Nat.reduceEqDiff, Nat.reduceAdd, Nat.reduceSub, Nat.reduceMul, Nat.reduceDiv, Nat.reduceMod, Nat.reduceLeDiff, Nat.reduceLT, Nat.reduceBEq, Int.reduceEq, Int.reduceBEq, Int.reduceBNe, Int.reduceLT, Int.reduceLE, Int.reduceAdd, Int.reduceSub, Int.reduceNeg, Int.reduceToNat, Int.reducePow, Nat.reducePow, Int.reduceMul, Int.reduceDiv, ↓s_stats_Bucket, h1]
      rfl
    · (repeat (first | exact Fr.refl _ | refine Fr.push ?_ _ | refine Fr.set ?_ _ _ (by intro h; first | omega | (simp only [go_sem] at h; omega))))
  · have h2 : 1099511627776 < n := by omega
    apply pure_of _ (d_stats_Bucket _ H) rfl
    rotate_left 2
    · simp (disch := first | with_reducible rfl | assumption | omega | rfl | (simp only [go_sem]; first | done | omega)) only [go_sem, ↓reduceIte, reduceCtorEq, Nat.reduceEqDiff, Nat.reduceAdd, Nat.reduceSub, Nat.reduceMul, Nat.reduceDiv, Nat.reduceMod, Nat.reduceLeDiff, Nat.reduceLT, Nat.reduceBEq, Int.reduceEq, Int.reduceBEq, Int.reduceBNe, Int.reduceLT, Int.reduceLE, Int.reduceAdd, Int.reduceSub, Int.reduceNeg, Int.reduceToNat, Int.reducePow, Nat.reducePow, Int.reduceMul, Int.reduceDiv, ↓s_stats_Bucket, h1, h2]
      rfl
    · (repeat (first | exact Fr.refl _ | refine Fr.push ?_ _ | refine Fr.set ?_ _ _ (by intro h; first | omega | (simp only [go_sem] at h; omega))))

def loN (b : Nat) : Nat := if b = 0 then 0 else 2 ^ (b - 1)
def hiN (b : Nat) : Nat := if b = 0 then 0 else min (2 ^ b - 1) 1099511627776

theorem pow41 {b : Nat} (h : b ≤ 41) : 2 ^ b ≤ 2199023255552 := Nat.pow_le_pow_right (by decide) h
theorem shl1 {b : Nat} (h : b ≤ 41) {ox oy : Operand} {i : Int} (hi : i = (b : Int)) : xbin Try.prog .shl T.int ox oy (.int .i64 1) (.int .i64 i) = some (.int .i64 ((2 ^ b : Nat) : Int)) := by
  subst hi
  have := pow41 h
  rw [shlP (by simp only [IntKind.bits]; omega)]
  have e : (1 : Int) * 2 ^ (b : Int).toNat = ((2 ^ b : Nat) : Int) := by rw [Int.one_mul, Int.toNat_natCast, Int.natCast_pow]; rfl
  rw [e]
  generalize 2 ^ b = q at *
  rw [wrap_i64 (by omega)]

theorem q_Bounds (b : Nat) (hb : b ≤ 41) (H : AHeap) : CC F.stats_Bounds [.int .i64 (b : Int)] H = some (.tuple ⟨[.int .i64 (loN b), .int .i64 (hiN b), .int .i64 0]⟩, H) := by
  have h1 : ¬ (b : Int) < 0 := by omega
  have h2 : ¬ (42 : Int) ≤ (b : Int) := by omega
  by_cases h0 : b = 0
  · subst h0
    apply pure_of _ (d_stats_Bounds _ H) rfl
    rotate_left 2
    · simp (disch := first | with_reducible rfl | assumption | omega | rfl | (simp only [go_sem]; first | done | omega)) only [go_sem, ↓reduceIte, reduceCtorEq, Nat.reduceEqDiff, Nat.reduceAdd, Nat.reduceSub, Nat.reduceMul, Nat.reduceDiv, Nat.reduceMod, Nat.reduceLeDiff, Nat.reduceLT, Nat.reduceBEq, Int.reduceEq, Int.reduceBEq, Int.reduceBNe, Int.reduceLT, Int.reduceLE, Int.reduceAdd, Int.reduceSub, Int.reduceNeg, Int.reduceToNat, Int.reducePow, Nat.reducePow, Int.reduceMul, Int.reduceDiv, ↓s_stats_Bounds, Int.natCast_zero, Int.lt_irrefl, decide_false]
      rfl
    · (repeat (first | exact Fr.refl _ | refine Fr.push ?_ _ | refine Fr.set ?_ _ _ (by intro h; first | omega | (simp only [go_sem] at h; omega))))
  · have h3 : ¬ (b : Int) = 0 := by omega
    have e1 := fun ox oy => shl1 (b := b - 1) (by omega) (ox := ox) (oy := oy) (i := (b : Int) - 1) (by omega)
    have e2 := fun ox oy => shl1 (b := b) hb (ox := ox) (oy := oy) rfl
    have p := pow41 hb
    have p0 := Nat.two_pow_pos b
    have hh : (hiN b : Int) = min (((2 ^ b : Nat) : Int) - 1) 1099511627776 := by unfold hiN; rw [if_neg h0]; omega
    have hl : (loN b : Int) = ((2 ^ (b - 1) : Nat) : Int) := by unfold loN; rw [if_neg h0]
    rw [hh, hl]
    generalize 2 ^ b = p2 at *
    apply pure_of _ (d_stats_Bounds _ H) rfl
    rotate_left 2
    · simp (disch := first | with_reducible rfl | assumption | omega | rfl | (simp only [go_sem]; first | done | omega)) only [go_sem, ↓reduceIte, reduceCtorEq, Nat.reduceEqDiff, Nat.reduceAdd, Nat.reduceSub, Nat.reduceMul, Nat.reduceDiv, Nat.reduceMod, Nat.reduceLeDiff, Nat.reduceLT, Nat.reduceBEq, Int.reduceEq, Int.reduceBEq, Int.reduceBNe, Int.reduceLT, Int.reduceLE, Int.reduceAdd, Int.reduceSub, Int.reduceNeg, Int.reduceToNat, Int.reducePow, Nat.reducePow, Int.reduceMul, Int.reduceDiv, ↓s_stats_Bounds, h1, h2, h3, e1, e2]
      rfl
    · (repeat (first | exact Fr.refl _ | refine Fr.push ?_ _ | refine Fr.set ?_ _ _ (by intro h; first | omega | (simp only [go_sem] at h; omega))))
theorem q_Bounds_bad (n : Int) (h : n < 0 ∨ 41 < n) (H : AHeap) : CC F.stats_Bounds [.int .i64 n] H = some (.tuple ⟨[.int .i64 0, .int .i64 0, .int .i64 2]⟩, H) := by
  by_cases h1 : n < 0
  · apply pure_of _ (d_stats_Bounds _ H) rfl
    rotate_left 2
    · simp (disch := first | with_reducible rfl | assumption | omega | rfl | (simp only [go_sem]; first | done | omega)) only [go_sem, ↓reduceIte, reduceCtorEq, Nat.reduceEqDiff, Nat.reduceAdd, Nat.reduceSub, Nat.reduceMul, Nat.reduceDiv, Nat.reduceMod, Nat.reduceLeDiff, Nat.reduceLT, Nat.reduceBEq, Int.reduceEq, Int.reduceBEq, Int.reduceBNe, Int.reduceLT, Int.reduceLE, Int.reduceAdd, Int.reduceSub, Int.reduceNeg, Int.reduceToNat, Int.reducePow, Nat.reducePow, Int.reduceMul, Int.reduceDiv, ↓s_stats_Bounds, h1]
      rfl
    · (repeat (first | exact Fr.refl _ | refine Fr.push ?_ _ | refine Fr.set ?_ _ _ (by intro h; first | omega | (simp only [go_sem] at h; omega))))
  · have h2 : 42 ≤ n := by omega
    apply pure_of _ (d_stats_Bounds _ H) rfl
    rotate_left 2
    · simp (disch := first | with_reducible rfl | assumption | omega | rfl | (simp only [go_sem]; first | done | omega)) only [go_sem, ↓reduceIte, reduceCtorEq, Nat.reduceEqDiff, Nat.reduceAdd, Nat.reduceSub, Nat.reduceMul, Nat.reduceDiv, Nat.reduceMod, Nat.reduceLeDiff, Nat.reduceLT, Nat.reduceBEq, Int.reduceEq, Int.reduceBEq, Int.reduceBNe, Int.reduceLT, Int.reduceLE, Int.reduceAdd, Int.reduceSub, Int.reduceNeg, Int.reduceToNat, Int.reducePow, Nat.reducePow, Int.reduceMul, Int.reduceDiv, ↓s_stats_Bounds, h1, h2]
      rfl
    · (repeat (first | exact Fr.refl _ | refine Fr.push ?_ _ | refine Fr.set ?_ _ _ (by intro h; first | omega | (simp only [go_sem] at h; omega))))

/-! ### the reference's -/
theorem l_rBounds (b : Nat) (hb : b ≤ 41) (H : AHeap) (k : K) : ∀ (d i n : Nat), i + d = b → 1 ≤ i → n * 2 ^ d ≤ 2199023255552 →
    l_ref26_Bounds_0 (.int .i64 (b : Int)) (.int .i64 (n : Int)) (.int .i64 (i : Int)) H (blkK [4] 0 k) = k .normal [(4, .int .i64 ((n * 2 ^ d : Nat) : Int))] H
  | 0, i, n, hi, h1, hn => by
    have h : ¬ (i : Int) < (b : Int) := by omega
    rw [r_ref26_Bounds_0]
    simp (disch := first | with_reducible rfl | assumption | omega | rfl | (simp only [go_sem]; first | done | omega)) only [go_sem, ↓reduceIte, reduceCtorEq, Nat.reduceEqDiff, Nat.reduceAdd, Nat.reduceSub, Nat.reduceMul, Nat.reduceDiv, Nat.reduceMod, Nat.reduceLeDiff, Nat.reduceLT, Nat.reduceBEq, Int.reduceEq, Int.reduceBEq, Int.reduceBNe, Int.reduceLT, Int.reduceLE, Int.reduceAdd, Int.reduceSub, Int.reduceNeg, Int.reduceToNat, Int.reducePow, Nat.reducePow, Int.reduceMul, Int.reduceDiv, ↓s_ref26_Bounds_b0, h, Nat.pow_zero, Nat.mul_one]
  | d + 1, i, n, hi, h1, hn => by
    have h : (i : Int) < (b : Int) := by omega
    have e : n * 2 ^ (d + 1) = 2 * n * 2 ^ d := by rw [Nat.pow_succ, Nat.mul_comm 2 n, Nat.mul_assoc, Nat.mul_comm 2]
    have hn2 : 2 * n ≤ 2199023255552 := Nat.le_trans (Nat.le_mul_of_pos_right _ (Nat.two_pow_pos d)) (by rw [← e]; exact hn)
    have ih := l_rBounds b hb H k d (i + 1) (2 * n) (by omega) (by omega) (by rw [← e]; exact hn)
    rw [← e] at ih
    rw [Int.natCast_add, Int.natCast_mul] at ih
    rw [r_ref26_Bounds_0]
    simp (disch := first | with_reducible rfl | assumption | omega | rfl | (simp only [go_sem]; first | done | omega)) only [go_sem, ↓reduceIte, reduceCtorEq, Nat.reduceEqDiff, Nat.reduceAdd, Nat.reduceSub, Nat.reduceMul, Nat.reduceDiv, Nat.reduceMod, Nat.reduceLeDiff, Nat.reduceLT, Nat.reduceBEq, Int.reduceEq, Int.reduceBEq, Int.reduceBNe, Int.reduceLT, Int.reduceLE, Int.reduceAdd, Int.reduceSub, Int.reduceNeg, Int.reduceToNat, Int.reducePow, Nat.reducePow, Int.reduceMul, Int.reduceDiv, ↓s_ref26_Bounds_b0, h]
    exact ih
theorem q_rBounds (b : Nat) (hb : b ≤ 41) (H : AHeap) : CC F.ref26_Bounds [.int .i64 (b : Int)] H = some (.tuple ⟨[.int .i64 (loN b), .int .i64 (hiN b)]⟩, H) := by
  by_cases h0 : b = 0
  · subst h0
    apply pure_of _ (d_ref26_Bounds _ H) rfl
    rotate_left 2
    · simp (disch := first | with_reducible rfl | assumption | omega | rfl | (simp only [go_sem]; first | done | omega)) only [go_sem, ↓reduceIte, reduceCtorEq, Nat.reduceEqDiff, Nat.reduceAdd, Nat.reduceSub, Nat.reduceMul, Nat.reduceDiv, Nat.reduceMod, Nat.reduceLeDiff, Nat.reduceLT, Nat.reduceBEq, Int.reduceEq, Int.reduceBEq, Int.reduceBNe, Int.reduceLT, Int.reduceLE, Int.reduceAdd, Int.reduceSub, Int.reduceNeg, Int.reduceToNat, Int.reducePow, Nat.reducePow, Int.reduceMul, Int.reduceDiv, ↓s_ref26_Bounds, Int.natCast_zero]
      rfl
    · (repeat (first | exact Fr.refl _ | refine Fr.push ?_ _ | refine Fr.set ?_ _ _ (by intro h; first | omega | (simp only [go_sem] at h; omega))))
  · have h3 : ¬ (b : Int) = 0 := by omega
    have p := pow41 (b := b - 1) (by omega)
    have hl := l_rBounds b hb H
    have hp : 2 ^ b = 2 * 2 ^ (b - 1) := by rw [← Nat.pow_succ']; congr 1; omega
    have hh : (hiN b : Int) = min (2 * ((2 ^ (b - 1) : Nat) : Int) - 1) 1099511627776 := by
      have := Nat.two_pow_pos (b - 1)
      unfold hiN
      rw [if_neg h0, hp]
      clear hl
      generalize 2 ^ (b - 1) = q at *
      omega
    have hl' : (loN b : Int) = ((2 ^ (b - 1) : Nat) : Int) := by unfold loN; rw [if_neg h0]
    have hlp := pow41 hb
    rw [hh, hl']
    have hL : ∀ k, l_ref26_Bounds_0 (.int .i64 (b : Int)) (.int .i64 1) (.int .i64 1) H (blkK [4] 0 k) = k .normal [(4, .int .i64 ((2 ^ (b - 1) : Nat) : Int))] H := fun k => by
      have := l_rBounds b hb H k (b - 1) 1 1 (by omega) (Nat.le_refl _) (by omega)
      rw [Nat.one_mul] at this
      exact this
    generalize 2 ^ (b - 1) = p2 at *
    apply pure_of _ (d_ref26_Bounds _ H) rfl
    rotate_left 2
    · simp (disch := first | with_reducible rfl | assumption | omega | rfl | (simp only [go_sem]; first | done | omega)) only [go_sem, ↓reduceIte, reduceCtorEq, Nat.reduceEqDiff, Nat.reduceAdd, Nat.reduceSub, Nat.reduceMul, Nat.reduceDiv, Nat.reduceMod, Nat.reduceLeDiff, Nat.reduceLT, Nat.reduceBEq, Int.reduceEq, Int.reduceBEq, Int.reduceBNe, Int.reduceLT, Int.reduceLE, Int.reduceAdd, Int.reduceSub, Int.reduceNeg, Int.reduceToNat, Int.reducePow, Nat.reducePow, Int.reduceMul, Int.reduceDiv, ↓s_ref26_Bounds, h3, hL]
      rfl
    · (repeat (first | exact Fr.refl _ | refine Fr.push ?_ _ | refine Fr.set ?_ _ _ (by intro h; first | omega | (simp only [go_sem] at h; omega))))

theorem in_bucket {x b : Nat} (hx : x ≤ 1099511627776) (hb : b ≤ 41) : (loN b ≤ x ∧ x ≤ hiN b) ↔ lenN x = b := by
  unfold loN hiN
  by_cases h0 : b = 0
  · subst h0
    simp only [if_true]
    constructor
    · intro h
      have : x = 0 := by omega
      subst this; rfl
    · intro h
      unfold lenN at h
      by_cases hx0 : x = 0
      · omega
      · rw [if_neg hx0] at h; omega
  · rw [if_neg h0, if_neg h0]
    obtain ⟨c, rfl⟩ : ∃ c, b = c + 1 := ⟨b - 1, by omega⟩
    rw [Nat.add_sub_cancel]
    have hp := Nat.two_pow_pos (c + 1)
    constructor
    · rintro ⟨h1, h2⟩
      exact lenN_of h1 (by omega)
    · intro h
      by_cases hx0 : x = 0
      · subst hx0; cases h
      · obtain ⟨c', e, h1, h2⟩ := lenN_spec hx0
        obtain rfl : c = c' := by omega
        exact ⟨h1, by omega⟩
theorem lenN_le {x : Nat} (hx : x ≤ 1099511627776) : lenN x ≤ 41 := by
  by_cases hx0 : x = 0
  · subst hx0; decide
  · obtain ⟨c, e, h1, h2⟩ := lenN_spec hx0
    have : c < 41 := by
      by_cases h : c < 41
      · exact h
      · exfalso
        have := Nat.pow_le_pow_right (n := 2) (by decide) (show 41 ≤ c by omega)
        omega
    omega

theorem l_rBucket (x : Nat) (hx : x ≤ 1099511627776) (H : AHeap) (k : K) : ∀ (d b : Nat), b + d = lenN x →
    l_ref26_Bucket_0 (.int .i64 (x : Int)) (.int .i64 (b : Int)) H (blkK [] 0 (seqK (fun _ h2 => k .ret [(2, .int .i64 (-1))] h2) k)) = k .ret [(2, .int .i64 (lenN x))] H
  | 0, b, hd => by
    have hb : b ≤ 41 := by have := lenN_le hx; omega
    have h : (b : Int) < 42 := by omega
    have hin := (in_bucket hx hb).2 (by omega)
    have h1 : ((loN b : Nat) : Int) ≤ (x : Int) := by omega
    have h2 : (x : Int) ≤ ((hiN b : Nat) : Int) := by omega
    have e : lenN x = b := by omega
    rw [r_ref26_Bucket_0, e]
    simp (disch := first | with_reducible rfl | assumption | omega | rfl | (simp only [go_sem]; first | done | omega)) only [go_sem, ↓reduceIte, reduceCtorEq, Nat.reduceEqDiff, Nat.reduceAdd, Nat.reduceSub, Nat.reduceMul, Nat.reduceDiv, Nat.reduceMod, Nat.reduceLeDiff, Nat.reduceLT, Nat.reduceBEq, Int.reduceEq, Int.reduceBEq, Int.reduceBNe, Int.reduceLT, Int.reduceLE, Int.reduceAdd, Int.reduceSub, Int.reduceNeg, Int.reduceToNat, Int.reducePow, Nat.reducePow, Int.reduceMul, Int.reduceDiv, ↓s_ref26_Bucket_b0, h, enterK_eq (q_rBounds b hb H), h1, h2]
  | d + 1, b, hd => by
    have hb : b ≤ 41 := by have := lenN_le hx; omega
    have h : (b : Int) < 42 := by omega
    have ih := l_rBucket x hx H k d (b + 1) (by omega)
    rw [Int.natCast_add] at ih
    have hin : ¬ (loN b ≤ x ∧ x ≤ hiN b) := fun h => by have := (in_bucket hx hb).1 h; omega
    rw [r_ref26_Bucket_0]
    by_cases h1 : loN b ≤ x
    · have h1' : ((loN b : Nat) : Int) ≤ (x : Int) := by omega
      have h2' : ¬ (x : Int) ≤ ((hiN b : Nat) : Int) := by omega
      simp (disch := first | with_reducible rfl | assumption | omega | rfl | (simp only [go_sem]; first | done | omega)) only [go_sem, ↓reduceIte, reduceCtorEq, Nat.reduceEqDiff, Nat.reduceAdd, Nat.reduceSub, Nat.reduceMul, Nat.reduceDiv, Nat.reduceMod, Nat.reduceLeDiff, Nat.reduceLT, Nat.reduceBEq, Int.reduceEq, Int.reduceBEq, Int.reduceBNe, Int.reduceLT, Int.reduceLE, Int.reduceAdd, Int.reduceSub, Int.reduceNeg, Int.reduceToNat, Int.reducePow, Nat.reducePow, Int.reduceMul, Int.reduceDiv, ↓s_ref26_Bucket_b0, h, enterK_eq (q_rBounds b hb H), h1', h2']
      exact ih
    · have h1' : ¬ ((loN b : Nat) : Int) ≤ (x : Int) := by omega
      simp (disch := first | with_reducible rfl | assumption | omega | rfl | (simp only [go_sem]; first | done | omega)) only [go_sem, ↓reduceIte, reduceCtorEq, Nat.reduceEqDiff, Nat.reduceAdd, Nat.reduceSub, Nat.reduceMul, Nat.reduceDiv, Nat.reduceMod, Nat.reduceLeDiff, Nat.reduceLT, Nat.reduceBEq, Int.reduceEq, Int.reduceBEq, Int.reduceBNe, Int.reduceLT, Int.reduceLE, Int.reduceAdd, Int.reduceSub, Int.reduceNeg, Int.reduceToNat, Int.reducePow, Nat.reducePow, Int.reduceMul, Int.reduceDiv, ↓s_ref26_Bucket_b0, h, enterK_eq (q_rBounds b hb H), h1']
      exact ih
theorem q_rBucket (x : Nat) (hx : x ≤ 1099511627776) (H : AHeap) : CC F.ref26_Bucket [.int .i64 (x : Int)] H = some (.int .i64 (lenN x), H) := by
  apply pure_of _ (d_ref26_Bucket _ H) rfl
  rotate_left 2
  · have := l_rBucket x hx H (endK Try.prog [.tmp 2]) (lenN x) 0 (by omega)
    simp (disch := first | with_reducible rfl | assumption | omega | rfl | (simp only [go_sem]; first | done | omega)) only [go_sem, ↓reduceIte, reduceCtorEq, Nat.reduceEqDiff, Nat.reduceAdd, Nat.reduceSub, Nat.reduceMul, Nat.reduceDiv, Nat.reduceMod, Nat.reduceLeDiff, Nat.reduceLT, Nat.reduceBEq, Int.reduceEq, Int.reduceBEq, Int.reduceBNe, Int.reduceLT, Int.reduceLE, Int.reduceAdd, Int.reduceSub, Int.reduceNeg, Int.reduceToNat, Int.reducePow, Nat.reducePow, Int.reduceMul, Int.reduceDiv, ↓s_ref26_Bucket]
    exact this
  · (repeat (first | exact Fr.refl _ | refine Fr.push ?_ _ | refine Fr.set ?_ _ _ (by intro h; first | omega | (simp only [go_sem] at h; omega))))

end Go.Proofs.Ytplblfcofplcmaa

/-
  The seat's functions as terms over the engine's combinators (a program of ours printed it).
  Conditions: none. By an AI agent.
-/
set_option linter.unusedVariables false
namespace Go.Proofs.Ytplblfcofplcmaa
open Go Eng

/-! ticketline.ticketlinelaw26.StatsBuckets -/

noncomputable def s_law_StatsBuckets (mg : GT) (mc : CT) (ms : ST) (P : Program) (C : CallF) (a0 : Value) (a1 : Value) (H : AHeap) (K0 : K) : Res :=
bareK (xbin P .lss T.int (.tmp 7) (.const (.int .i64 0)) a0 (.int .i64 0)) H fun t8 h1 =>
mg t8 false (fun o1 => o1 a0 h1) h1 fun t10 h2 =>
mg t8 false (fun o2 => bareK (xbin P .gtr T.int (.tmp 10) (.const (.int .i64 1099511627776)) t10 (.int .i64 1099511627776)) h2 o2) h2 fun t11 h3 =>
pickK t8 (.bool true) t11 fun t12 =>
mc t12 (fun k3 => enterK C F.law_bucket [a0, (.int .i64 0), (.int .i64 2)] h3 fun t14 h4 =>
bareK (xun P .not t14) h4 fun t15 h5 =>
mc t15 (fun k4 => k4 .ret [(4, (.bool false))] h5) (fun k4 =>
k4 .normal [(1, a1)] h5) (afterK [1] k3)) (fun k3 =>
enterK C F.ref26_Bucket [a0] h3 fun t18 h6 =>
enterK C F.law_bucket [a0, t18, (.int .i64 0)] h6 fun t19 h7 =>
bareK (xun P .not t19) h7 fun t20 h8 =>
mc t20 (fun k5 => k5 .ret [(4, (.bool false))] h8) (fun k5 =>
k5 .normal [(1, a1)] h8) (afterK [1] k3)) (seqK (fun tT h9 =>
bareK (xbin P .lss T.int (.tmp 21) (.const (.int .i64 0)) (get tT 1) (.int .i64 0)) h9 fun t22 h10 =>
mg t22 false (fun o6 => o6 (get tT 1) h10) h10 fun t24 h11 =>
mg t22 false (fun o7 => bareK (xbin P .gtr T.int (.tmp 24) (.const (.int .i64 41)) t24 (.int .i64 41)) h11 o7) h11 fun t25 h12 =>
pickK t22 (.bool true) t25 fun t26 =>
mc t26 (fun k8 => enterK C F.law_bounds [(get tT 1), (.int .i64 0), (.int .i64 0), (.int .i64 2)] h12 fun t28 h13 =>
mg t28 true (fun o9 => enterK C F.law_known [] h13 o9) h13 fun t30 h14 =>
pickK t28 t30 (.bool false) fun t31 =>
k8 .ret [(4, t31)] h14) (fun k8 =>
k8 .normal [(1, (get tT 1))] h12) (seqK (fun tT_1 h15 =>
enterK C F.ref26_Bounds [(get tT_1 1)] h15 fun t34 h16 =>
bareK (xextract t34 0) h16 fun t35 h17 =>
bareK (xextract t34 1) h17 fun t36 h18 =>
enterK C F.law_bounds [(get tT_1 1), t35, t36, (.int .i64 0)] h18 fun t40 h19 =>
mg t40 true (fun o10 => enterK C F.law_known [] h19 o10) h19 fun t42 h20 =>
pickK t40 t42 (.bool false) fun t43 =>
K0 .ret [(4, t43)] h20) K0)) K0)

theorem s_law_StatsBuckets_eq (M : CombL) (C : CallF) (LP : LoopH) (a0 : Value) (a1 : Value) (H : AHeap) : dBodyL M Try.prog hints C LP F.law_StatsBuckets [a0, a1] H = s_law_StatsBuckets M.b.g M.c M.s Try.prog C a0 a1 H (endK Try.prog [.tmp 4]) := by kernel_rfl

end Go.Proofs.Ytplblfcofplcmaa

/-
  The equations of the seat's functions over calls in the limit (a program of ours printed it).
  Conditions: none. By an AI agent.
-/
set_option linter.unusedVariables false
namespace Go.Proofs.Ytplblfcofplcmaa
open Go Eng



theorem d_law_StatsBuckets (a0 : Value) (a1 : Value) (H : AHeap) {r : Value × AHeap} (h : s_law_StatsBuckets guardK condL shareL Try.prog CC a0 a1 H (endK Try.prog [.tmp 4]) = some r) : CC F.law_StatsBuckets [a0, a1] H = some (tidy H r) := D_body (by kernel_rfl) ((s_law_StatsBuckets_eq stdL CC limLP a0 a1 H).trans (Eq.trans (show s_law_StatsBuckets stdL.b.g stdL.c stdL.s Try.prog CC a0 a1 H (endK Try.prog [.tmp 4]) = s_law_StatsBuckets guardK condL shareL Try.prog CC a0 a1 H (endK Try.prog [.tmp 4]) by kernel_rfl) h))

end Go.Proofs.Ytplblfcofplcmaa

/-
  Chapter 26: the law StatsBuckets runs to true.
  Conditions: none. By an AI agent.
-/
set_option maxRecDepth 10000
set_option linter.unusedSimpArgs false
set_option linter.unusedVariables false
namespace Go.Proofs.Ytplblfcofplcmaa
open Go Eng

theorem k_known (H : AHeap) : CC F.law_known [] H = some (.bool true, H) := D_prim (show prims1 F.law_known = some trueP by kernel_rfl) rfl
@[go_sem, go_sem ↓] theorem e_known {H : AHeap} {k : Value → AHeap → Res} : enterK CC F.law_known [] H k = k (.bool true) H := enterK_eq (k_known H)

theorem q_lbucket {n w e : Int} {H : AHeap} (h : CC F.stats_Bucket [.int .i64 n] H = some (.tuple ⟨[.int .i64 w, .int .i64 e]⟩, H)) : CC F.law_bucket [.int .i64 n, .int .i64 w, .int .i64 e] H = some (.bool true, H) := by
  apply pure_of _ (d_law_bucket _ _ _ H) rfl
  rotate_left 2
  · simp (disch := first | with_reducible rfl | assumption | omega | rfl | (simp only [go_sem]; first | done | omega)) only [go_sem, ↓reduceIte, reduceCtorEq, Nat.reduceEqDiff, Nat.reduceAdd, Nat.reduceSub, Nat.reduceMul, Nat.reduceDiv, Nat.reduceMod, Nat.reduceLeDiff, Nat.reduceLT, Nat.reduceBEq, Int.reduceEq, Int.reduceBEq, Int.reduceBNe, Int.reduceLT, Int.reduceLE, Int.reduceAdd, Int.reduceSub, Int.reduceNeg, Int.reduceToNat, Int.reducePow, Nat.reducePow, Int.reduceMul, Int.reduceDiv, ↓s_law_bucket, ↓enterK_eq h, enterK_eq h]
    rfl
  · (repeat (first | exact Fr.refl _ | refine Fr.push ?_ _ | refine Fr.set ?_ _ _ (by intro h; first | omega | (simp only [go_sem] at h; omega))))
theorem q_lbounds {n w w2 e : Int} {H : AHeap} (h : CC F.stats_Bounds [.int .i64 n] H = some (.tuple ⟨[.int .i64 w, .int .i64 w2, .int .i64 e]⟩, H)) : CC F.law_bounds [.int .i64 n, .int .i64 w, .int .i64 w2, .int .i64 e] H = some (.bool true, H) := by
  apply pure_of _ (d_law_bounds _ _ _ _ H) rfl
  rotate_left 2
  · simp (disch := first | with_reducible rfl | assumption | omega | rfl | (simp only [go_sem]; first | done | omega)) only [go_sem, ↓reduceIte, reduceCtorEq, Nat.reduceEqDiff, Nat.reduceAdd, Nat.reduceSub, Nat.reduceMul, Nat.reduceDiv, Nat.reduceMod, Nat.reduceLeDiff, Nat.reduceLT, Nat.reduceBEq, Int.reduceEq, Int.reduceBEq, Int.reduceBNe, Int.reduceLT, Int.reduceLE, Int.reduceAdd, Int.reduceSub, Int.reduceNeg, Int.reduceToNat, Int.reducePow, Nat.reducePow, Int.reduceMul, Int.reduceDiv, ↓s_law_bounds, ↓enterK_eq h, enterK_eq h]
    rfl
  · (repeat (first | exact Fr.refl _ | refine Fr.push ?_ _ | refine Fr.set ?_ _ _ (by intro h; first | omega | (simp only [go_sem] at h; omega))))

theorem q_StatsBuckets (n b : Int) (H : AHeap) : CC F.law_StatsBuckets [.int .i64 n, .int .i64 b] H = some (.bool true, H) := by
  have hB : ∀ (H : AHeap), b < 0 ∨ 41 < b → CC F.law_bounds [.int .i64 b, .int .i64 0, .int .i64 0, .int .i64 2] H = some (.bool true, H) := fun H h => q_lbounds (q_Bounds_bad b h H)
  have hG : ∀ (c : Nat) (H : AHeap), c ≤ 41 → b = (c : Int) → CC F.law_bounds [.int .i64 (c : Int), .int .i64 (loN c), .int .i64 (hiN c), .int .i64 0] H = some (.bool true, H) := fun c H h _ => q_lbounds (q_Bounds c h H)
  by_cases h1 : n < 0
  · have e1 := q_lbucket (q_Bucket_bad n (.inl h1) H)
    by_cases h3 : b < 0
    · apply pure_of _ (d_law_StatsBuckets _ _ H) rfl
      rotate_left 2
      · simp (disch := first | with_reducible rfl | assumption | omega | rfl | (simp only [go_sem]; first | done | omega)) only [go_sem, ↓reduceIte, reduceCtorEq, Nat.reduceEqDiff, Nat.reduceAdd, Nat.reduceSub, Nat.reduceMul, Nat.reduceDiv, Nat.reduceMod, Nat.reduceLeDiff, Nat.reduceLT, Nat.reduceBEq, Int.reduceEq, Int.reduceBEq, Int.reduceBNe, Int.reduceLT, Int.reduceLE, Int.reduceAdd, Int.reduceSub, Int.reduceNeg, Int.reduceToNat, Int.reducePow, Nat.reducePow, Int.reduceMul, Int.reduceDiv, ↓s_law_StatsBuckets, h1, h3, ↓enterK_eq e1, enterK_eq e1, enterK_eq (hB H (.inl h3))]
        rfl
      · (repeat (first | exact Fr.refl _ | refine Fr.push ?_ _ | refine Fr.set ?_ _ _ (by intro h; first | omega | (simp only [go_sem] at h; omega))))
    · by_cases h4 : 41 < b
      · apply pure_of _ (d_law_StatsBuckets _ _ H) rfl
        rotate_left 2
        · simp (disch := first | with_reducible rfl | assumption | omega | rfl | (simp only [go_sem]; first | done | omega)) only [go_sem, ↓reduceIte, reduceCtorEq, Nat.reduceEqDiff, Nat.reduceAdd, Nat.reduceSub, Nat.reduceMul, Nat.reduceDiv, Nat.reduceMod, Nat.reduceLeDiff, Nat.reduceLT, Nat.reduceBEq, Int.reduceEq, Int.reduceBEq, Int.reduceBNe, Int.reduceLT, Int.reduceLE, Int.reduceAdd, Int.reduceSub, Int.reduceNeg, Int.reduceToNat, Int.reducePow, Nat.reducePow, Int.reduceMul, Int.reduceDiv, ↓s_law_StatsBuckets, h1, h3, h4, ↓enterK_eq e1, enterK_eq e1, enterK_eq (hB H (.inr h4))]
          rfl
        · (repeat (first | exact Fr.refl _ | refine Fr.push ?_ _ | refine Fr.set ?_ _ _ (by intro h; first | omega | (simp only [go_sem] at h; omega))))
      · obtain ⟨c, rfl⟩ : ∃ c : Nat, b = (c : Int) := ⟨b.toNat, by omega⟩
        apply pure_of _ (d_law_StatsBuckets _ _ H) rfl
        rotate_left 2
        · simp (disch := first | with_reducible rfl | assumption | omega | rfl | (simp only [go_sem]; first | done | omega)) only [go_sem, ↓reduceIte, reduceCtorEq, Nat.reduceEqDiff, Nat.reduceAdd, Nat.reduceSub, Nat.reduceMul, Nat.reduceDiv, Nat.reduceMod, Nat.reduceLeDiff, Nat.reduceLT, Nat.reduceBEq, Int.reduceEq, Int.reduceBEq, Int.reduceBNe, Int.reduceLT, Int.reduceLE, Int.reduceAdd, Int.reduceSub, Int.reduceNeg, Int.reduceToNat, Int.reducePow, Nat.reducePow, Int.reduceMul, Int.reduceDiv, ↓s_law_StatsBuckets, h1, h3, h4, ↓enterK_eq e1, enterK_eq e1, enterK_eq (q_rBounds c (by omega) H), enterK_eq (hG c H (by omega) rfl)]
          rfl
        · (repeat (first | exact Fr.refl _ | refine Fr.push ?_ _ | refine Fr.set ?_ _ _ (by intro h; first | omega | (simp only [go_sem] at h; omega))))
  · by_cases h2 : 1099511627776 < n
    · have e1 := q_lbucket (q_Bucket_bad n (.inr h2) H)
      by_cases h3 : b < 0
      · apply pure_of _ (d_law_StatsBuckets _ _ H) rfl
        rotate_left 2
        · simp (disch := first | with_reducible rfl | assumption | omega | rfl | (simp only [go_sem]; first | done | omega)) only [go_sem, ↓reduceIte, reduceCtorEq, Nat.reduceEqDiff, Nat.reduceAdd, Nat.reduceSub, Nat.reduceMul, Nat.reduceDiv, Nat.reduceMod, Nat.reduceLeDiff, Nat.reduceLT, Nat.reduceBEq, Int.reduceEq, Int.reduceBEq, Int.reduceBNe, Int.reduceLT, Int.reduceLE, Int.reduceAdd, Int.reduceSub, Int.reduceNeg, Int.reduceToNat, Int.reducePow, Nat.reducePow, Int.reduceMul, Int.reduceDiv, ↓s_law_StatsBuckets, h1, h2, h3, ↓enterK_eq e1, enterK_eq e1, enterK_eq (hB H (.inl h3))]
          rfl
        · (repeat (first | exact Fr.refl _ | refine Fr.push ?_ _ | refine Fr.set ?_ _ _ (by intro h; first | omega | (simp only [go_sem] at h; omega))))
      · by_cases h4 : 41 < b
        · apply pure_of _ (d_law_StatsBuckets _ _ H) rfl
          rotate_left 2
          · simp (disch := first | with_reducible rfl | assumption | omega | rfl | (simp only [go_sem]; first | done | omega)) only [go_sem, ↓reduceIte, reduceCtorEq, Nat.reduceEqDiff, Nat.reduceAdd, Nat.reduceSub, Nat.reduceMul, Nat.reduceDiv, Nat.reduceMod, Nat.reduceLeDiff, Nat.reduceLT, Nat.reduceBEq, Int.reduceEq, Int.reduceBEq, Int.reduceBNe, Int.reduceLT, Int.reduceLE, Int.reduceAdd, Int.reduceSub, Int.reduceNeg, Int.reduceToNat, Int.reducePow, Nat.reducePow, Int.reduceMul, Int.reduceDiv, ↓s_law_StatsBuckets, h1, h2, h3, h4, ↓enterK_eq e1, enterK_eq e1, enterK_eq (hB H (.inr h4))]
            rfl
          · (repeat (first | exact Fr.refl _ | refine Fr.push ?_ _ | refine Fr.set ?_ _ _ (by intro h; first | omega | (simp only [go_sem] at h; omega))))
        · obtain ⟨c, rfl⟩ : ∃ c : Nat, b = (c : Int) := ⟨b.toNat, by omega⟩
          apply pure_of _ (d_law_StatsBuckets _ _ H) rfl
          rotate_left 2
          · simp (disch := first | with_reducible rfl | assumption | omega | rfl | (simp only [go_sem]; first | done | omega)) only [go_sem, ↓reduceIte, reduceCtorEq, Nat.reduceEqDiff, Nat.reduceAdd, Nat.reduceSub, Nat.reduceMul, Nat.reduceDiv, Nat.reduceMod, Nat.reduceLeDiff, Nat.reduceLT, Nat.reduceBEq, Int.reduceEq, Int.reduceBEq, Int.reduceBNe, Int.reduceLT, Int.reduceLE, Int.reduceAdd, Int.reduceSub, Int.reduceNeg, Int.reduceToNat, Int.reducePow, Nat.reducePow, Int.reduceMul, Int.reduceDiv, ↓s_law_StatsBuckets, h1, h2, h3, h4, ↓enterK_eq e1, enterK_eq e1, enterK_eq (q_rBounds c (by omega) H), enterK_eq (hG c H (by omega) rfl)]
            rfl
          · (repeat (first | exact Fr.refl _ | refine Fr.push ?_ _ | refine Fr.set ?_ _ _ (by intro h; first | omega | (simp only [go_sem] at h; omega))))
    · obtain ⟨x, rfl⟩ : ∃ x : Nat, n = (x : Int) := ⟨n.toNat, by omega⟩
      have e0 := q_rBucket x (by omega) H
      have e1 := q_lbucket (q_Bucket x (by omega) H)
      by_cases h3 : b < 0
      · apply pure_of _ (d_law_StatsBuckets _ _ H) rfl
        rotate_left 2
        · simp (disch := first | with_reducible rfl | assumption | omega | rfl | (simp only [go_sem]; first | done | omega)) only [go_sem, ↓reduceIte, reduceCtorEq, Nat.reduceEqDiff, Nat.reduceAdd, Nat.reduceSub, Nat.reduceMul, Nat.reduceDiv, Nat.reduceMod, Nat.reduceLeDiff, Nat.reduceLT, Nat.reduceBEq, Int.reduceEq, Int.reduceBEq, Int.reduceBNe, Int.reduceLT, Int.reduceLE, Int.reduceAdd, Int.reduceSub, Int.reduceNeg, Int.reduceToNat, Int.reducePow, Nat.reducePow, Int.reduceMul, Int.reduceDiv, ↓s_law_StatsBuckets, h1, h2, h3, ↓enterK_eq e0, enterK_eq e0, ↓enterK_eq e1, enterK_eq e1, enterK_eq (hB H (.inl h3))]
          rfl
        · (repeat (first | exact Fr.refl _ | refine Fr.push ?_ _ | refine Fr.set ?_ _ _ (by intro h; first | omega | (simp only [go_sem] at h; omega))))
      · by_cases h4 : 41 < b
        · apply pure_of _ (d_law_StatsBuckets _ _ H) rfl
          rotate_left 2
          · simp (disch := first | with_reducible rfl | assumption | omega | rfl | (simp only [go_sem]; first | done | omega)) only [go_sem, ↓reduceIte, reduceCtorEq, Nat.reduceEqDiff, Nat.reduceAdd, Nat.reduceSub, Nat.reduceMul, Nat.reduceDiv, Nat.reduceMod, Nat.reduceLeDiff, Nat.reduceLT, Nat.reduceBEq, Int.reduceEq, Int.reduceBEq, Int.reduceBNe, Int.reduceLT, Int.reduceLE, Int.reduceAdd, Int.reduceSub, Int.reduceNeg, Int.reduceToNat, Int.reducePow, Nat.reducePow, Int.reduceMul, Int.reduceDiv, ↓s_law_StatsBuckets, h1, h2, h3, h4, ↓enterK_eq e0, enterK_eq e0, ↓enterK_eq e1, enterK_eq e1, enterK_eq (hB H (.inr h4))]
            rfl
          · (repeat (first | exact Fr.refl _ | refine Fr.push ?_ _ | refine Fr.set ?_ _ _ (by intro h; first | omega | (simp only [go_sem] at h; omega))))
        · obtain ⟨c, rfl⟩ : ∃ c : Nat, b = (c : Int) := ⟨b.toNat, by omega⟩
          apply pure_of _ (d_law_StatsBuckets _ _ H) rfl
          rotate_left 2
          · simp (disch := first | with_reducible rfl | assumption | omega | rfl | (simp only [go_sem]; first | done | omega)) only [go_sem, ↓reduceIte, reduceCtorEq, Nat.reduceEqDiff, Nat.reduceAdd, Nat.reduceSub, Nat.reduceMul, Nat.reduceDiv, Nat.reduceMod, Nat.reduceLeDiff, Nat.reduceLT, Nat.reduceBEq, Int.reduceEq, Int.reduceBEq, Int.reduceBNe, Int.reduceLT, Int.reduceLE, Int.reduceAdd, Int.reduceSub, Int.reduceNeg, Int.reduceToNat, Int.reducePow, Nat.reducePow, Int.reduceMul, Int.reduceDiv, ↓s_law_StatsBuckets, h1, h2, h3, h4, ↓enterK_eq e0, enterK_eq e0, ↓enterK_eq e1, enterK_eq e1, enterK_eq (q_rBounds c (by omega) H), enterK_eq (hG c H (by omega) rfl)]
            rfl
          · (repeat (first | exact Fr.refl _ | refine Fr.push ?_ _ | refine Fr.set ?_ _ _ (by intro h; first | omega | (simp only [go_sem] at h; omega))))

theorem run_StatsBuckets (a b : Int) (_ : (Lit.int .i64 a).wf = true) (_ : (Lit.int .i64 b).wf = true) : ∃ k H', dCall Try.prog prims1 hints k F.law_StatsBuckets [.int .i64 a, .int .i64 b] H0 = some (.bool true, H') := by
  obtain ⟨k, h⟩ := D_run (q_StatsBuckets a b H0)
  exact ⟨k, _, h⟩

end Go.Proofs.Ytplblfcofplcmaa

/-
  Chapter 26: counters.
  Conditions: none. By an AI agent.
-/
set_option maxRecDepth 10000
set_option linter.unusedSimpArgs false
set_option linter.unusedVariables false
namespace Go.Proofs.Ytplblfcofplcmaa
open Go Eng
theorem bareK_congr' {x y : Option Value} {H : AHeap} {k : Value → AHeap → Res} (h : x = y) : bareK x H k = bareK y H k := by rw [h]
theorem bothK_congr' {x y : Option (Value × AHeap)} {k : Value → AHeap → Res} (h : x = y) : bothK x k = bothK y k := by rw [h]
theorem quietK_congr' {x y : Option AHeap} {k : Value → AHeap → Res} (h : x = y) : quietK x k = quietK y k := by rw [h]
attribute [local congr] bareK_congr' bothK_congr' quietK_congr'

abbrev Ec := List (ByteArray × Nat)
def entsOf (E : Ec) : List (Value × Value) := E.map fun p => (.string p.1, .int .i64 (p.2 : Int))
def RC (v : Value) (a : Nat) : Prop := v = .int .i64 (a : Int)
theorem ent_of : ∀ E : Ec, Ent RC kStr.kv (entsOf E) E
  | [] => trivial
  | _ :: E => ⟨rfl, rfl, ent_of E⟩
theorem of_ent : ∀ {ents : List (Value × Value)} {E : Ec}, Ent RC kStr.kv ents E → ents = entsOf E
  | [], [], _ => rfl
  | (k, v) :: ents, p :: E, h => by
    obtain ⟨h1, h2, h3⟩ := h
    simp only at h1 h2
    subst h1
    have h2 : v = .int .i64 (p.2 : Int) := h2
    subst h2
    rw [of_ent h3]
    rfl
  | [], _ :: _, h => h.elim
  | _ :: _, [], h => h.elim
theorem mt : MapT Try.prog kStr T.map_string_int (.int .i64 0) := ⟨_, _, Try.underlying32, by kernel_rfl, by kernel_rfl⟩

@[go_sem] theorem cp_some {ox oy : Operand} {a : Addr} : xbin Try.prog .eql T.p_stats_Counter ox oy (.pointer (some a)) (.pointer none) = some (.bool false) := by kernel_rfl
theorem map_nil {ox oy : Operand} : xbin Try.prog .eql T.map_string_int ox oy (.map none) (.map none) = some (.bool true) := by kernel_rfl
theorem map_some {ox oy : Operand} {b : Nat} : xbin Try.prog .eql T.map_string_int ox oy (.map (some b)) (.map none) = some (.bool false) := by kernel_rfl

structure Cnt (H : AHeap) (c mb : Nat) (E : Ec) (tot : Nat) : Prop where
  ok : ∀ b, H.ver b < H.clk
  f : H.f c = .cells [.map (some mb), .int .i64 (tot : Int)] T.stats_Counter true
  m : H.f mb = .map (entsOf E)
  cn : c < H.n
  mn : mb < H.n
  ne : c ≠ mb

theorem q_named (s : ByteArray) (H : AHeap) : CC F.stats_named [.string s] H = some (.bool (namedA s), H) :=
  D_prim (show prims1 F.stats_named = some namedP by kernel_rfl) rfl

section
variable {H : AHeap} {c mb : Nat} {E : Ec} {tot : Nat}

theorem q_Total (h : H.f c = .cells [.map (some mb), .int .i64 (tot : Int)] T.stats_Counter true) : CC F.stats_Counter_Total [.pointer (some ⟨c, 0, none⟩)] H = some (.int .i64 (tot : Int), H) := by
  apply pure_of _ (d_stats_Counter_Total _ H) rfl
  rotate_left 2
  · simp (disch := first | with_reducible rfl | assumption | omega | rfl | (simp only [go_sem]; first | done | omega)) only [go_sem, ↓reduceIte, reduceCtorEq, Nat.reduceEqDiff, Nat.reduceAdd, Nat.reduceSub, Nat.reduceMul, Nat.reduceDiv, Nat.reduceMod, Nat.reduceLeDiff, Nat.reduceLT, Nat.reduceBEq, Int.reduceEq, Int.reduceBEq, Int.reduceBNe, Int.reduceLT, Int.reduceLE, Int.reduceAdd, Int.reduceSub, Int.reduceNeg, Int.reduceToNat, Int.reducePow, Nat.reducePow, Int.reduceMul, Int.reduceDiv, ↓s_stats_Counter_Total, h]
    rfl
  · (repeat (first | exact Fr.refl _ | refine Fr.push ?_ _ | refine Fr.set ?_ _ _ (by intro h; first | omega | (simp only [go_sem] at h; omega))))
theorem q_Get (h : Cnt H c mb E tot) {s : ByteArray} {a : Nat} (ha : lkp E s = some a) : CC F.stats_Counter_Get [.pointer (some ⟨c, 0, none⟩), .string s] H = some (.int .i64 (a : Int), H) := by
  obtain ⟨v, hl, hv⟩ := look_some mt h.m (ent_of E) ha false
  have hv : v = .int .i64 (a : Int) := hv
  subst hv
  have hl : xlookup Try.prog T.map_string_int (.map (some mb)) (.string s) false H = some (.int .i64 (a : Int)) := hl
  have hf := h.f
  apply pure_of _ (d_stats_Counter_Get _ _ H) rfl
  rotate_left 2
  · simp (disch := first | with_reducible rfl | assumption | omega | rfl | (simp only [go_sem]; first | done | omega)) only [go_sem, ↓reduceIte, reduceCtorEq, Nat.reduceEqDiff, Nat.reduceAdd, Nat.reduceSub, Nat.reduceMul, Nat.reduceDiv, Nat.reduceMod, Nat.reduceLeDiff, Nat.reduceLT, Nat.reduceBEq, Int.reduceEq, Int.reduceBEq, Int.reduceBNe, Int.reduceLT, Int.reduceLE, Int.reduceAdd, Int.reduceSub, Int.reduceNeg, Int.reduceToNat, Int.reducePow, Nat.reducePow, Int.reduceMul, Int.reduceDiv, ↓s_stats_Counter_Get, hf, hl]
    rfl
  · (repeat (first | exact Fr.refl _ | refine Fr.push ?_ _ | refine Fr.set ?_ _ _ (by intro h; first | omega | (simp only [go_sem] at h; omega))))

/-- The first name. -/
theorem q_cAdd0F (s : ByteArray) (n : Nat) (hn : namedA s = true) (h0 : 0 < n) (h1 : n ≤ 4611686018427387904) (ok : ∀ b, H.ver b < H.clk) (hc : c < H.n) (hf : H.f c = .cells [.map none, .int .i64 0] T.stats_Counter true) :
    ∃ H', CC F.stats_Counter_Add [.pointer (some ⟨c, 0, none⟩), .string s, .int .i64 (n : Int)] H = some (.int .i64 0, H') ∧ Cnt H' c H.n [(s, n)] n ∧ Fr (fun b => b = c) H H' := by
  have e1 := q_named s H
  rw [hn] at e1
  have a1 : ¬ (n : Int) < 0 := by omega
  have a2 : ¬ (4611686018427387904 : Int) < (n : Int) := by omega
  have a3 : ¬ (n : Int) = 0 := by omega
  have l1 : xlookup Try.prog T.map_string_int (.map none) (.string s) true H = some (.tuple #[.int .i64 0, .bool false]) := look_nil mt (k := s) true
  have l2 : xlenM Try.prog [T.map_string_int] (.map none) H = some (.int .i64 0) := len_mapnil mt []
  have l3 : xmakeMap Try.prog T.map_string_int none H = some (.map (some H.n), H.push (.map [])) := make_map mt
  obtain ⟨H1, hH1⟩ : ∃ H1, H.push (.map []) = H1 := ⟨_, rfl⟩
  rw [hH1] at l3
  have s1 : Still H H1 := by rw [← hH1]; exact (Fr.refl H).push _
  have f1 : H1.f c = .cells [.map none, .int .i64 0] T.stats_Counter true := by rw [s1.f hc (fun h => h)]; exact hf
  have m1 : H1.f H.n = .map (entsOf []) := by rw [← hH1]; exact push_f_eq rfl
  have n1 : H1.n = H.n + 1 := by rw [← hH1]; rfl
  obtain ⟨H2, hH2⟩ : ∃ H2, H1.set c (.cells [.map (some H.n), .int .i64 0] T.stats_Counter true) = H2 := ⟨_, rfl⟩
  have f2 : H2.f c = .cells [.map (some H.n), .int .i64 0] T.stats_Counter true := by rw [← hH2]; exact set_f_eq
  have m2 : H2.f H.n = .map (entsOf []) := by rw [← hH2, set_f_ne (by omega)]; exact m1
  have l4 : xlookup Try.prog T.map_string_int (.map (some H.n)) (.string s) false H2 = some (.int .i64 0) := look_none mt m2 (ent_of []) (k := s) rfl false
  have l5 := upd_map mt m2 (ent_of []) s (.int .i64 (n : Int))
  have p5 : mput (entsOf []) (kStr.kv s) (.int .i64 (n : Int)) = entsOf [(s, n)] := of_ent ((ent_of []).put (R := RC) (k := s) (a := n) rfl)
  rw [p5] at l5
  obtain ⟨H3, hH3⟩ : ∃ H3, H2.set H.n (.map (entsOf [(s, n)])) = H3 := ⟨_, rfl⟩
  rw [hH3] at l5
  have l5 : xmapUpdate Try.prog T.map_string_int (.map (some H.n)) (.string s) (.int .i64 (n : Int)) H2 = some H3 := l5
  have f3 : H3.f c = .cells [.map (some H.n), .int .i64 0] T.stats_Counter true := by rw [← hH3, set_f_ne (by omega)]; exact f2
  have m3 : H3.f H.n = .map (entsOf [(s, n)]) := by rw [← hH3]; exact set_f_eq
  obtain ⟨H4, hH4⟩ : ∃ H4, H3.set c (.cells [.map (some H.n), .int .i64 (n : Int)] T.stats_Counter true) = H4 := ⟨_, rfl⟩
  have f4 : H4.f c = .cells [.map (some H.n), .int .i64 (n : Int)] T.stats_Counter true := by rw [← hH4]; exact set_f_eq
  have m4 : H4.f H.n = .map (entsOf [(s, n)]) := by rw [← hH4, set_f_ne (by omega)]; exact m3
  have fr2 : Fr (fun b => b = c) H H2 := by rw [← hH2]; exact Fr.set s1.still _ _ fun _ => rfl
  have fr3 : Fr (fun b => b = c) H H3 := by rw [← hH3]; exact Fr.set fr2 _ _ fun h => absurd h (Nat.lt_irrefl _)
  have fr4 : Fr (fun b => b = c) H H4 := by rw [← hH4]; exact fr3.set _ _ fun _ => rfl
  have n4 : H4.n = H.n + 1 := by rw [← hH4, ← hH3, ← hH2]; exact n1
  refine ⟨H4, (d_stats_Counter_Add _ _ _ H (r := (.int .i64 0, H4)) ?_).trans (congrArg some (tidy_turned hc (ok c) (by rw [← hH4, set_v_eq]; exact fr3.clk))), ⟨fr4.ok ok, f4, m4, by omega, by omega, by omega⟩, fr4⟩
  simp (disch := first | with_reducible rfl | assumption | omega | rfl | (simp only [go_sem]; first | done | omega)) only [go_sem, ↓reduceIte, reduceCtorEq, Nat.reduceEqDiff, Nat.reduceAdd, Nat.reduceSub, Nat.reduceMul, Nat.reduceDiv, Nat.reduceMod, Nat.reduceLeDiff, Nat.reduceLT, Nat.reduceBEq, Int.reduceEq, Int.reduceBEq, Int.reduceBNe, Int.reduceLT, Int.reduceLE, Int.reduceAdd, Int.reduceSub, Int.reduceNeg, Int.reduceToNat, Int.reducePow, Nat.reducePow, Int.reduceMul, Int.reduceDiv, ↓s_stats_Counter_Add, hf, l1, ↓enterK_eq e1, enterK_eq e1, a1, a2, a3, l2, map_nil, l3, f1, hH2, f2, l4, l5, f3, hH4, Int.zero_add, Bool.not_true, Bool.not_false]

theorem q_cAdd0 (s : ByteArray) (n : Nat) (hn : namedA s = true) (h0 : 0 < n) (h1 : n ≤ 4611686018427387904) (ok : ∀ b, H.ver b < H.clk) (hc : c < H.n) (hf : H.f c = .cells [.map none, .int .i64 0] T.stats_Counter true) :
    ∃ H', CC F.stats_Counter_Add [.pointer (some ⟨c, 0, none⟩), .string s, .int .i64 (n : Int)] H = some (.int .i64 0, H') ∧ Cnt H' c H.n [(s, n)] n := by
  obtain ⟨H', h1, h2, _⟩ := q_cAdd0F s n hn h0 h1 ok hc hf
  exact ⟨H', h1, h2⟩

/-- A name that is added, or of which there is more. -/
theorem q_cAddF (s : ByteArray) (n old : Nat) (hn : namedA s = true) (h0 : 0 < n) (h : Cnt H c mb E tot) (ht : tot + n ≤ 4611686018427387904) (hold : (lkp E s = none ∧ old = 0 ∧ E.length ≠ 1000) ∨ (lkp E s = some old)) (ho : old + n ≤ 4611686018427387904) :
    ∃ H', CC F.stats_Counter_Add [.pointer (some ⟨c, 0, none⟩), .string s, .int .i64 (n : Int)] H = some (.int .i64 0, H') ∧ Cnt H' c mb (putE E s (old + n)) (tot + n) ∧ Fr (fun b => b = c ∨ b = mb) H H' := by
  have e1 := q_named s H
  rw [hn] at e1
  have a1 : ¬ (n : Int) < 0 := by omega
  have a2 : ¬ (4611686018427387904 : Int) < (n : Int) := by omega
  have a3 : ¬ (n : Int) = 0 := by omega
  have a4 : ¬ (4611686018427387904 : Int) - (tot : Int) < (n : Int) := by omega
  have hf := h.f
  have hm := h.m
  have hcn := h.cn
  have hmn := h.mn
  have hne := h.ne
  have l5 := upd_map mt hm (ent_of E) s (.int .i64 ((old : Int) + (n : Int)))
  have p5 : mput (entsOf E) (kStr.kv s) (.int .i64 ((old : Int) + (n : Int))) = entsOf (putE E s (old + n)) := of_ent ((ent_of E).put (R := RC) (k := s) (a := old + n) (by show _ = _; rw [Int.natCast_add]))
  rw [p5] at l5
  obtain ⟨H3, hH3⟩ : ∃ H3, H.set mb (.map (entsOf (putE E s (old + n)))) = H3 := ⟨_, rfl⟩
  rw [hH3] at l5
  have l5 : xmapUpdate Try.prog T.map_string_int (.map (some mb)) (.string s) (.int .i64 ((old : Int) + (n : Int))) H = some H3 := l5
  have f3 : H3.f c = .cells [.map (some mb), .int .i64 (tot : Int)] T.stats_Counter true := by rw [← hH3, set_f_ne hne]; exact hf
  have m3 : H3.f mb = .map (entsOf (putE E s (old + n))) := by rw [← hH3]; exact set_f_eq
  obtain ⟨H4, hH4⟩ : ∃ H4, H3.set c (.cells [.map (some mb), .int .i64 ((tot : Int) + (n : Int))] T.stats_Counter true) = H4 := ⟨_, rfl⟩
  have f4 : H4.f c = .cells [.map (some mb), .int .i64 ((tot + n : Nat) : Int)] T.stats_Counter true := by rw [← hH4, Int.natCast_add]; exact set_f_eq
  have m4 : H4.f mb = .map (entsOf (putE E s (old + n))) := by rw [← hH4, set_f_ne (fun h => hne h.symm)]; exact m3
  have fr3 : Fr (fun b => b = c ∨ b = mb) H H3 := by rw [← hH3]; exact Fr.set (Fr.refl H) _ _ fun _ => .inr rfl
  have fr4 : Fr (fun b => b = c ∨ b = mb) H H4 := by rw [← hH4]; exact fr3.set _ _ fun _ => .inl rfl
  have n4 : H4.n = H.n := by rw [← hH4, ← hH3]; rfl
  refine ⟨H4, (d_stats_Counter_Add _ _ _ H (r := (.int .i64 0, H4)) ?_).trans (congrArg some (tidy_turned hcn (h.ok c) (by rw [← hH4, set_v_eq]; exact fr3.clk))), ⟨fr4.ok h.ok, f4, m4, by omega, by omega, hne⟩, fr4⟩
  rcases hold with ⟨hk, hz, hlen⟩ | hk
  · have l1 : xlookup Try.prog T.map_string_int (.map (some mb)) (.string s) true H = some (.tuple #[.int .i64 0, .bool false]) := look_none mt hm (ent_of E) hk true
    have l2 : xlenM Try.prog [T.map_string_int] (.map (some mb)) H = some (.int .i64 (E.length : Int)) := len_map mt hm (ent_of E) []
    have l4 : xlookup Try.prog T.map_string_int (.map (some mb)) (.string s) false H = some (.int .i64 (old : Int)) := by rw [hz]; exact look_none mt hm (ent_of E) hk false
    have a5 : ¬ (E.length : Int) = 1000 := by omega
    simp (disch := first | with_reducible rfl | assumption | omega | rfl | (simp only [go_sem]; first | done | omega)) only [go_sem, ↓reduceIte, reduceCtorEq, Nat.reduceEqDiff, Nat.reduceAdd, Nat.reduceSub, Nat.reduceMul, Nat.reduceDiv, Nat.reduceMod, Nat.reduceLeDiff, Nat.reduceLT, Nat.reduceBEq, Int.reduceEq, Int.reduceBEq, Int.reduceBNe, Int.reduceLT, Int.reduceLE, Int.reduceAdd, Int.reduceSub, Int.reduceNeg, Int.reduceToNat, Int.reducePow, Nat.reducePow, Int.reduceMul, Int.reduceDiv, ↓s_stats_Counter_Add, hf, l1, ↓enterK_eq e1, enterK_eq e1, a1, a2, a3, a4, l2, a5, map_some, l4, l5, f3, hH4, Bool.not_true, Bool.not_false]
  · obtain ⟨v1, l1, hv1⟩ := look_some mt hm (ent_of E) hk true
    have hv1 : v1 = .int .i64 (old : Int) := hv1
    subst hv1
    have l1 : xlookup Try.prog T.map_string_int (.map (some mb)) (.string s) true H = some (.tuple #[.int .i64 (old : Int), .bool true]) := l1
    obtain ⟨v4, l4, hv4⟩ := look_some mt hm (ent_of E) hk false
    have hv4 : v4 = .int .i64 (old : Int) := hv4
    subst hv4
    have l4 : xlookup Try.prog T.map_string_int (.map (some mb)) (.string s) false H = some (.int .i64 (old : Int)) := l4
    simp (disch := first | with_reducible rfl | assumption | omega | rfl | (simp only [go_sem]; first | done | omega)) only [go_sem, ↓reduceIte, reduceCtorEq, Nat.reduceEqDiff, Nat.reduceAdd, Nat.reduceSub, Nat.reduceMul, Nat.reduceDiv, Nat.reduceMod, Nat.reduceLeDiff, Nat.reduceLT, Nat.reduceBEq, Int.reduceEq, Int.reduceBEq, Int.reduceBNe, Int.reduceLT, Int.reduceLE, Int.reduceAdd, Int.reduceSub, Int.reduceNeg, Int.reduceToNat, Int.reducePow, Nat.reducePow, Int.reduceMul, Int.reduceDiv, ↓s_stats_Counter_Add, hf, l1, ↓enterK_eq e1, enterK_eq e1, a1, a2, a3, a4, map_some, l4, l5, f3, hH4, Bool.not_true, Bool.not_false]

theorem q_cAdd (s : ByteArray) (n old : Nat) (hn : namedA s = true) (h0 : 0 < n) (h : Cnt H c mb E tot) (ht : tot + n ≤ 4611686018427387904) (hold : (lkp E s = none ∧ old = 0 ∧ E.length ≠ 1000) ∨ (lkp E s = some old)) (ho : old + n ≤ 4611686018427387904) :
    ∃ H', CC F.stats_Counter_Add [.pointer (some ⟨c, 0, none⟩), .string s, .int .i64 (n : Int)] H = some (.int .i64 0, H') ∧ Cnt H' c mb (putE E s (old + n)) (tot + n) := by
  obtain ⟨H', h1, h2, _⟩ := q_cAddF s n old hn h0 h ht hold ho
  exact ⟨H', h1, h2⟩

theorem q_cAdd_full (s : ByteArray) (n : Nat) (hn : namedA s = true) (h0 : 0 < n) (hn2 : n ≤ 4611686018427387904) (h : Cnt H c mb E tot) (ht2 : tot ≤ 4611686018427387904) (hfu : 4611686018427387904 < tot + n ∨ (lkp E s = none ∧ E.length = 1000)) :
    CC F.stats_Counter_Add [.pointer (some ⟨c, 0, none⟩), .string s, .int .i64 (n : Int)] H = some (.int .i64 7, H) := by
  have e1 := q_named s H
  rw [hn] at e1
  have a1 : ¬ (n : Int) < 0 := by omega
  have a2 : ¬ (4611686018427387904 : Int) < (n : Int) := by omega
  have a3 : ¬ (n : Int) = 0 := by omega
  have hf := h.f
  have hm := h.m
  obtain ⟨z, is, l1⟩ : ∃ z is, xlookup Try.prog T.map_string_int (.map (some mb)) (.string s) true H = some (.tuple #[z, .bool is]) := by
    cases hk : lkp E s with
    | none => exact ⟨_, _, look_none mt hm (ent_of E) hk true⟩
    | some a =>
      obtain ⟨v1, l1, _⟩ := look_some mt hm (ent_of E) hk true
      exact ⟨_, _, l1⟩
  by_cases a4 : (4611686018427387904 : Int) - (tot : Int) < (n : Int)
  · apply pure_of _ (d_stats_Counter_Add _ _ _ H) rfl
    rotate_left 2
    · simp (disch := first | with_reducible rfl | assumption | omega | rfl | (simp only [go_sem]; first | done | omega)) only [go_sem, ↓reduceIte, reduceCtorEq, Nat.reduceEqDiff, Nat.reduceAdd, Nat.reduceSub, Nat.reduceMul, Nat.reduceDiv, Nat.reduceMod, Nat.reduceLeDiff, Nat.reduceLT, Nat.reduceBEq, Int.reduceEq, Int.reduceBEq, Int.reduceBNe, Int.reduceLT, Int.reduceLE, Int.reduceAdd, Int.reduceSub, Int.reduceNeg, Int.reduceToNat, Int.reducePow, Nat.reducePow, Int.reduceMul, Int.reduceDiv, ↓s_stats_Counter_Add, hf, l1, ↓enterK_eq e1, enterK_eq e1, a1, a2, a3, a4, Bool.not_true, Bool.not_false]
      rfl
    · (repeat (first | exact Fr.refl _ | refine Fr.push ?_ _ | refine Fr.set ?_ _ _ (by intro h; first | omega | (simp only [go_sem] at h; omega))))
  · obtain ⟨hk, hlen⟩ := hfu.resolve_left (by omega)
    have l1 : xlookup Try.prog T.map_string_int (.map (some mb)) (.string s) true H = some (.tuple #[.int .i64 0, .bool false]) := look_none mt hm (ent_of E) hk true
    have l2 : xlenM Try.prog [T.map_string_int] (.map (some mb)) H = some (.int .i64 (E.length : Int)) := len_map mt hm (ent_of E) []
    have a5 : (E.length : Int) = 1000 := by omega
    rw [a5] at l2
    apply pure_of _ (d_stats_Counter_Add _ _ _ H) rfl
    rotate_left 2
    · simp (disch := first | with_reducible rfl | assumption | omega | rfl | (simp only [go_sem]; first | done | omega)) only [go_sem, ↓reduceIte, reduceCtorEq, Nat.reduceEqDiff, Nat.reduceAdd, Nat.reduceSub, Nat.reduceMul, Nat.reduceDiv, Nat.reduceMod, Nat.reduceLeDiff, Nat.reduceLT, Nat.reduceBEq, Int.reduceEq, Int.reduceBEq, Int.reduceBNe, Int.reduceLT, Int.reduceLE, Int.reduceAdd, Int.reduceSub, Int.reduceNeg, Int.reduceToNat, Int.reducePow, Nat.reducePow, Int.reduceMul, Int.reduceDiv, ↓s_stats_Counter_Add, hf, l1, ↓enterK_eq e1, enterK_eq e1, a1, a2, a3, a4, l2, Bool.not_true, Bool.not_false]
      rfl
    · (repeat (first | exact Fr.refl _ | refine Fr.push ?_ _ | refine Fr.set ?_ _ _ (by intro h; first | omega | (simp only [go_sem] at h; omega))))
theorem q_cAdd_none (s : ByteArray) (hn : namedA s = true) (h : Cnt H c mb E tot) : CC F.stats_Counter_Add [.pointer (some ⟨c, 0, none⟩), .string s, .int .i64 0] H = some (.int .i64 0, H) := by
  have e1 := q_named s H
  rw [hn] at e1
  have hf := h.f
  have hm := h.m
  obtain ⟨z, is, l1⟩ : ∃ z is, xlookup Try.prog T.map_string_int (.map (some mb)) (.string s) true H = some (.tuple #[z, .bool is]) := by
    cases hk : lkp E s with
    | none => exact ⟨_, _, look_none mt hm (ent_of E) hk true⟩
    | some a =>
      obtain ⟨v1, l1, _⟩ := look_some mt hm (ent_of E) hk true
      exact ⟨_, _, l1⟩
  apply pure_of _ (d_stats_Counter_Add _ _ _ H) rfl
  rotate_left 2
  · simp (disch := first | with_reducible rfl | assumption | omega | rfl | (simp only [go_sem]; first | done | omega)) only [go_sem, ↓reduceIte, reduceCtorEq, Nat.reduceEqDiff, Nat.reduceAdd, Nat.reduceSub, Nat.reduceMul, Nat.reduceDiv, Nat.reduceMod, Nat.reduceLeDiff, Nat.reduceLT, Nat.reduceBEq, Int.reduceEq, Int.reduceBEq, Int.reduceBNe, Int.reduceLT, Int.reduceLE, Int.reduceAdd, Int.reduceSub, Int.reduceNeg, Int.reduceToNat, Int.reducePow, Nat.reducePow, Int.reduceMul, Int.reduceDiv, ↓s_stats_Counter_Add, hf, l1, ↓enterK_eq e1, enterK_eq e1, Bool.not_true, Bool.not_false]
    rfl
  · (repeat (first | exact Fr.refl _ | refine Fr.push ?_ _ | refine Fr.set ?_ _ _ (by intro h; first | omega | (simp only [go_sem] at h; omega))))

theorem strs_of : ∀ {E : Ec}, (∀ p ∈ E, p.1.size ≤ 1000) → strs (entsOf E) = some (E.map fun p => p.1.data.toList)
  | [], _ => rfl
  | p :: E, h => by
    have h1 := h p (by simp)
    have ih := strs_of (E := E) fun q hq => h q (by simp [hq])
    show ((keyStr (.string p.1)).bind fun s => (strs (entsOf E)).map (s :: ·)) = _
    rw [ih]
    unfold keyStr
    simp only [h1, if_true, Option.bind_some, Option.map_some, List.map_cons]
theorem q_Names (h : Cnt H c mb E tot) (hE : ∀ p ∈ E, p.1.size ≤ 1000) (hne : E ≠ []) (hlen : E.length ≤ 1000000) : ∃ v H', CC F.stats_Counter_Names [.pointer (some ⟨c, 0, none⟩)] H = some (v, H') ∧ lenS v = some (.int .i64 (E.length : Int)) ∧ Still H H' := by
  have hk := strs_of hE
  have hp : prims1 F.stats_Counter_Names = some namesP := by kernel_rfl
  have hkn : (E.map fun p => p.1.data.toList).isEmpty = false := by cases E with | nil => exact absurd rfl hne | cons _ _ => rfl
  have hl : (entsOf E).length ≤ 1000000 := by unfold entsOf; rw [List.length_map]; exact hlen
  have hne' : ¬ (E.map fun p => p.1.data.toList).isEmpty = true := by rw [hkn]; decide
  have hf := h.f
  have hm := h.m
  have e : namesP [.pointer (some ⟨c, 0, none⟩)] H = some (.slice (some ⟨H.n, 0, none⟩) (E.map fun p => p.1.data.toList).length (2 * (E.map fun p => p.1.data.toList).length + 1), H.push (.cells ((sortS (E.map fun p => p.1.data.toList)).map fun s => .string ⟨s.toArray⟩) 9 true)) := by
    unfold namesP
    simp only [hf, List.getElem?_cons_zero, hm, hk]
    rw [if_pos hl, if_neg hne']
  exact ⟨_, _, D_prim hp e, by rw [lenS_s, List.length_map], (Fr.refl H).push _⟩
end

end Go.Proofs.Ytplblfcofplcmaa

/-
  The engine, part 36: rows: appending where nothing may be appended; parts that are only read; one cell of two.
  Conditions: none. By an AI agent.
-/
namespace Go.Proofs.Ytplblfcofplcmaa.Eng
open Go
set_option linter.unusedVariables false
set_option linter.unusedSimpArgs false

variable {α : Type} {E : Enc α} {H : AHeap} {v : Value} {l m : List α} {e : TypeId}

theorem Own.nil : Own E H e (.slice none 0 0) [] := .inl ⟨rfl, rfl⟩

theorem Own.appE (r : Own E H e v l) {sz bytes : Nat} (hsz : sz = E.w) (hb : (l.length + m.length) * bytes ≤ 140737488355328) (hn : l.length + m.length ≤ 140737488355328)
    {src : Option (Nat × List Value)} (hsrc : src = some (m.length, E.cells m)) :
    ∃ v' H', Eng.app e sz bytes v src H = some (v', H') ∧ Own E H' e v' (l ++ m) ∧ Fr (OnlyOf v) H H' ∧ (blockOf v' = blockOf v ∨ blockOf v' = some H.n) := by
  by_cases hm : m = []
  · subst hm hsrc
    refine ⟨v, H, ?_, by simpa using r, Fr.refl H, .inl rfl⟩
    rcases r with ⟨rfl, rfl⟩ | ⟨rfl, a, rfl, _, _⟩ | ⟨b, o, c, xs, rfl, _⟩ <;> rfl
  · obtain ⟨v', H', h1, h2, h3, h4, _⟩ := r.app hm hsz hb hn hsrc
    exact ⟨v', H', h1, h2, h3, h4⟩

/-- Appending to a row whose capacity is its length. -/
theorem Rd.appX {a : Option Addr} {n : Nat} (r : Rd E H (.slice a n (2 * n)) l) {sz bytes : Nat} (hsz : sz = E.w) (hb : (l.length + m.length) * bytes ≤ 140737488355328) (hn : l.length + m.length ≤ 140737488355328)
    {src : Option (Nat × List Value)} (hsrc : src = some (m.length, E.cells m)) (h0 : l ≠ []) :
    ∃ v' H', Eng.app e sz bytes (.slice a n (2 * n)) src H = some (v', H') ∧ Rd E H' v' (l ++ m) ∧ Still H H' ∧ (blockOf v' = a.map (·.block) ∨ blockOf v' = some H.n) := by
  subst hsz
  by_cases hm : m = []
  · subst hm hsrc
    refine ⟨_, H, rfl, by simpa using r, Fr.refl H, ?_⟩
    rcases r with h | ⟨h, _⟩ | ⟨b, o, c, hv, _⟩
    · exact absurd h.1 h0
    · exact absurd h h0
    · cases hv; exact .inl rfl
  · have hm0 : m.length ≠ 0 := fun h => hm (List.length_eq_zero_iff.1 h)
    rcases r with h | ⟨h, _⟩ | ⟨b, o, c, hv, hl, hbn, hc⟩
    · exact absurd h.1 h0
    · exact absurd h h0
    · cases hv
      refine ⟨.slice (some ⟨H.n, 0, none⟩) (l.length + m.length) (2 * (l.length + m.length) + 1), H.push (.cells (E.cells l ++ E.cells m) e true), ?_, ?_, (Fr.refl H).push _, .inr rfl⟩
      · have hold : oldOf E.w l.length H (some ⟨b, o, none⟩) = some (E.cells l) := by
          unfold oldOf
          rw [if_neg fun h => hl (List.length_eq_zero_iff.1 h)]
          simp only [cut_b, hc]
        have hbig : ¬ ((l.length + m.length) * bytes > 140737488355328 ∨ l.length + m.length > 140737488355328) := by omega
        have hroom : ¬ (l.length + m.length ≤ 2 * l.length / 2) := by omega
        have hone := E.cells_one m
        subst hsrc
        simp only [Eng.app, Option.bind_some, hm0, if_false, hbig, hroom, hone, Bool.true_eq_false, hold, show 2 * l.length % 2 = 0 by omega, if_true, Option.map_some]
      · refine .inr (.inr ⟨H.n, 0, _, by rw [List.length_append], by simp [hm], by simp, ?_⟩)
        rw [push_f_eq rfl, cutB_c (by simp [Nat.add_mul]), E.cells_append]
        rw [List.drop_zero, List.take_of_length_le (by simp [Nat.add_mul])]

/-- The first elements. -/
theorem Own.hi (r : Own E H e v l) {sz : Nat} (hsz : sz = E.w) {i : Nat} (hi : i ≤ l.length) {q : IntKind} : ∃ v', slS e sz v none (some (.int q (i : Int))) none H = some v' ∧ Rd E H v' (l.take i) := by
  subst hsz
  rcases r with ⟨rfl, rfl⟩ | ⟨rfl, ⟨b, o, s⟩, rfl, hs, hbb⟩ | ⟨b, o, c, xs, rfl, hl, hbn, hf, ho, hx⟩
  · simp only [List.length_nil, Nat.le_zero_eq] at hi
    subst hi
    exact ⟨.slice none 0 0, rfl, .inl ⟨by simp, rfl⟩⟩
  · simp only at hs
    subst hs
    simp only [List.length_nil, Nat.le_zero_eq] at hi
    subst hi
    exact ⟨.slice (some ⟨b, o, none⟩) 0 0, by simp [slS, lowOf, highOf, bnd], .inr (.inl ⟨by simp, _, _, rfl, rfl⟩)⟩
  · have hmul := Nat.mul_le_mul_right E.w hl
    have hmi := Nat.mul_le_mul_right E.w hi
    refine ⟨_, sl_hi hf (Nat.le_trans hi hl), ?_⟩
    have hlen : (l.take i).length = i := by simp; omega
    by_cases h0 : i = 0
    · subst h0; exact .inr (.inl ⟨by simp, _, _, rfl, rfl⟩)
    · refine .inr (.inr ⟨b, o, _, by rw [hlen], fun h => h0 (by rw [← hlen, h]; rfl), hbn, ?_⟩)
      rw [hlen, hf, cutB_c (by omega), ← E.cells_take, ← hx, List.take_take, Nat.min_eq_left hmi]

/-- The second cell of two. -/
theorem wr1_two {k k' : Blk} {o : Nat} {x y w : Value} (hx1 : Eng.one x = true) (hy1 : Eng.one y = true) (hc : cutB k o 2 = some [x, w]) (h : wrL k o [x, y] = some k') : wr1 k (o + 1) y = some k' := by
  unfold cutB at hc
  unfold wrL at h
  unfold wr1
  cases k with
  | cells xs e rw =>
    cases rw with
    | false => cases h
    | true =>
      simp only at hc h ⊢
      split at hc
      · rename_i hle
        rw [if_pos (by simpa using hle)] at h
        have hx : xs[o]? = some x := by
          have := congrArg (fun z => z[0]?) (Option.some.inj hc)
          simp only [List.getElem?_take, List.getElem?_drop] at this
          simpa using this
        rw [if_pos (by omega)]
        have he : xs.set o x = xs := by
          apply List.ext_getElem?
          intro j
          by_cases hj : j = o
          · subst hj; rw [List.getElem?_set_self (by omega), hx]
          · rw [List.getElem?_set_ne (by omega)]
        simp only [List.all_cons, List.all_nil, hx1, hy1, Bool.and_self, if_true, spl, he] at h
        rw [if_pos hy1]
        simpa using h
      · cases hc
  | _ => cases h

/-- The second cell of an element of two is written. -/
theorem Own.second (r : Own E H e v l) (hw : E.w = 2) {f g : α → Value} (henc : ∀ a, E.enc a = [f a, g a]) (h1 : ∀ a, Eng.one (f a) = true) (h2 : ∀ a, Eng.one (g a) = true) {i : Nat} (hi : i < l.length) (a : α) (hk : f a = f l[i]) :
    ∃ b o H', ixS 2 v (.int .i64 (i : Int)) = some (.pointer (some ⟨b, o, none⟩)) ∧ cellB (H.f b) o = some (f l[i]) ∧ cellB (H.f b) (o + 1) = some (g l[i]) ∧ setB H b (wr1 (H.f b) (o + 1) (g a)) = some H' ∧ Own E H' e v (l.set i a) ∧ blockOf v = some b ∧ b < H.n ∧
      H'.n = H.n ∧ Fr (fun c => c = b) H H' ∧ H'.ver b = H.clk := by
  have hr := r.rd.ix (q := .i64) hi
  rw [hw] at hr
  obtain ⟨b0, o0, q1, q2, q3, q4⟩ := hr
  rw [henc] at q3
  rcases r with ⟨h, _⟩ | ⟨h, _⟩ | ⟨b, o, c, xs, rfl, hlc, hb, hf, ho, hx⟩
  · subst h; simp at hi
  · subst h; simp at hi
  · rw [hw] at ho hx
    have hmul : l.length * 2 ≤ c * 2 := Nat.mul_le_mul_right _ hlc
    rw [ixS_nat hi] at q1
    cases q1
    have hcut := q3
    have hwl : wrL (H.f b0) (o + i * 2) [f l[i], g a] = some (.cells (spl xs (o + i * 2) [f l[i], g a]) e true) := by
      rw [hf, wrL_c (by simp; omega) (by simp [h1, h2])]
    refine ⟨b0, o + i * 2, H.set b0 (.cells (spl xs (o + i * 2) [f l[i], g a]) e true), ixS_nat hi, cutB_cell hcut (i := 0) (by decide), cutB_cell hcut (i := 1) (by decide), ?_, ?_, rfl, hb, rfl, Fr.set (Fr.refl H) _ _ fun _ => rfl, set_v_eq⟩
    · rw [wr1_two (h1 _) (h2 _) hcut hwl, setB_s]
    · refine .inr (.inr ⟨b0, o, c, _, by simp, by simpa using hlc, by simpa using hb, set_f_eq, by rw [spl_length, hw, ho], ?_⟩)
      rw [List.length_set, hw]
      apply List.ext_getElem?
      intro j
      have hcell : ∀ (l : List α) (k m : Nat), m < 2 → (E.cells l)[k * 2 + m]? = (l[k]?).bind fun a => (E.enc a)[m]? := by
        intro l k m hm
        by_cases hk : k < l.length
        · have := E.cells_elem l k hk
          rw [hw] at this
          rw [List.getElem?_eq_getElem hk, Option.bind_some, ← this, List.getElem?_take_of_lt hm, List.getElem?_drop]
        · rw [List.getElem?_eq_none (by rw [E.cells_len, hw]; omega), List.getElem?_eq_none (by omega)]
          rfl
      by_cases hj : j < l.length * 2
      · rw [List.getElem?_take_of_lt hj, List.getElem?_drop, spl_get _ _ _ _ (by simp; omega)]
        have hdm : j = (j / 2) * 2 + j % 2 := by omega
        rw [hdm, hcell _ _ _ (by omega)]
        have hold : xs[o + j]? = (l[j / 2]?).bind fun a => (E.enc a)[j % 2]? := by
          rw [← hcell _ _ _ (by omega), ← hdm, ← hx, List.getElem?_take_of_lt hj, List.getElem?_drop]
        by_cases h3 : j / 2 = i
        · rw [if_pos (by simp; omega), ← hk, h3, List.getElem?_set_self hi, Option.bind_some, henc]
          rw [show o + (i * 2 + j % 2) - (o + i * 2) = j % 2 by omega]
        · rw [if_neg (by simp; omega), List.getElem?_set_ne (by omega), ← hdm, hold]
      · rw [List.getElem?_eq_none (by simp only [List.length_take]; omega), List.getElem?_eq_none (by rw [E.cells_len, List.length_set, hw]; omega)]

end Go.Proofs.Ytplblfcofplcmaa.Eng

/-
  Chapter 26: the reference's counter.
  Conditions: none. By an AI agent.
-/
set_option maxRecDepth 10000
set_option linter.unusedSimpArgs false
set_option linter.unusedVariables false
namespace Go.Proofs.Ytplblfcofplcmaa
open Go Eng
attribute [local congr] bareK_congr' bothK_congr' quietK_congr'

def ENa : Enc (ByteArray × Nat) := ⟨2, fun p => [.string p.1, .int .i64 (p.2 : Int)], fun _ => rfl, by decide, fun _ => rfl⟩
def ltS (a b : ByteArray) : Bool := Op.bytesLess (bl a) (bl b)
@[go_sem] theorem ltS_eq {a b : ByteArray} : Op.bytesLess (bl a) (bl b) = ltS a b := rfl
def posN : Ec → ByteArray → Nat
  | [], _ => 0
  | p :: N, s => if ltS p.1 s = true then posN N s + 1 else 0
def totN (N : Ec) : Nat := (N.map (·.2)).sum
theorem totN_app (A B : Ec) : totN (A ++ B) = totN A + totN B := by simp [totN]
theorem posN_le : ∀ (N : Ec) (s : ByteArray), posN N s ≤ N.length
  | [], _ => Nat.le_refl _
  | p :: N, s => by
    rw [posN]
    have := posN_le N s
    split
    · simp; omega
    · simp

theorem dropN {l m : Ec} {a : ByteArray × Nat} {i : Nat} (h : l.drop i = a :: m) : ∃ hi : i < l.length, l[i] = a ∧ l.drop (i + 1) = m := by
  have hi : i < l.length := by
    by_cases hi : i < l.length
    · exact hi
    · rw [List.drop_eq_nil_of_le (by omega)] at h; cases h
  rw [List.drop_eq_getElem_cons hi] at h
  cases h
  exact ⟨hi, rfl, rfl⟩

/-! ### names -/
def okb (c : UInt8) : Bool := (decide (97 ≤ c.toNat) && decide (c.toNat ≤ 122)) || (decide (48 ≤ c.toNat) && decide (c.toNat ≤ 57)) || decide (c.toNat = 45)
def nameB (s : ByteArray) : Bool := (bl s).all okb && (decide (1 ≤ (bl s).length) && decide ((bl s).length ≤ 40))
theorem ix_str {s : ByteArray} {i : Nat} (h : i < (bl s).length) : xindex Try.prog T.string (.string s) (.int .i64 (i : Int)) = some (.int .u8 ((bl s)[i].toNat : Int)) := by
  unfold xindex
  rw [show Try.prog.underlying T.string = some .string from Try.underlying9]
  simp only [Int.natCast_nonneg, if_true, Int.toNat_natCast]
  rw [List.getElem?_eq_getElem h]
  rfl

theorem l_name (s : ByteArray) (hl : (bl s).length ≤ 4611686018427387904) (H : AHeap) (KK : K) : ∀ (d i : Nat), i + d = (bl s).length → ((bl s).drop i).all okb = true →
    l_ref26_name_0 (.string s) (.int .i64 (i : Int)) H (blkK [0] 0 KK) = KK .normal [(0, .string s)] H
  | 0, i, hi, ha => by
    have hlt : ¬ (i : Int) < ((bl s).length : Int) := by omega
    rw [r_ref26_name_0]
    simp (disch := first | with_reducible rfl | assumption | omega | rfl | (simp only [go_sem]; first | done | omega)) only [go_sem, ↓reduceIte, reduceCtorEq, Nat.reduceEqDiff, Nat.reduceAdd, Nat.reduceSub, Nat.reduceMul, Nat.reduceDiv, Nat.reduceMod, Nat.reduceLeDiff, Nat.reduceLT, Nat.reduceBEq, Int.reduceEq, Int.reduceBEq, Int.reduceBNe, Int.reduceLT, Int.reduceLE, Int.reduceAdd, Int.reduceSub, Int.reduceNeg, Int.reduceToNat, Int.reducePow, Nat.reducePow, Int.reduceMul, Int.reduceDiv, ↓s_ref26_name_b0, hlt]
  | d + 1, i, hi, ha => by
    have h : i < (bl s).length := by omega
    have hlt : (i : Int) < ((bl s).length : Int) := by omega
    rw [List.drop_eq_getElem_cons h, List.all_cons, Bool.and_eq_true] at ha
    have ih := l_name s hl H KK d (i + 1) (by omega) ha.2
    rw [Int.natCast_add] at ih
    have hix := ix_str h
    obtain ⟨c, hc⟩ : ∃ c, (bl s)[i] = c := ⟨_, rfl⟩
    rw [hc] at hix
    have hok := ha.1
    rw [hc] at hok
    unfold okb at hok
    rw [r_ref26_name_0]
    by_cases c1 : (97 : Int) ≤ (c.toNat : Int)
    · by_cases c2 : (c.toNat : Int) ≤ 122
      · simp (disch := first | with_reducible rfl | assumption | omega | rfl | (simp only [go_sem]; first | done | omega)) only [go_sem, ↓reduceIte, reduceCtorEq, Nat.reduceEqDiff, Nat.reduceAdd, Nat.reduceSub, Nat.reduceMul, Nat.reduceDiv, Nat.reduceMod, Nat.reduceLeDiff, Nat.reduceLT, Nat.reduceBEq, Int.reduceEq, Int.reduceBEq, Int.reduceBNe, Int.reduceLT, Int.reduceLE, Int.reduceAdd, Int.reduceSub, Int.reduceNeg, Int.reduceToNat, Int.reducePow, Nat.reducePow, Int.reduceMul, Int.reduceDiv, ↓s_ref26_name_b0, hlt, hix, c1, c2]
        exact ih
      · exfalso
        simp at hok
        omega
    · have c5 : ¬ 97 ≤ c.toNat := by omega
      by_cases c3 : (48 : Int) ≤ (c.toNat : Int)
      · by_cases c4 : (c.toNat : Int) ≤ 57
        · simp (disch := first | with_reducible rfl | assumption | omega | rfl | (simp only [go_sem]; first | done | omega)) only [go_sem, ↓reduceIte, reduceCtorEq, Nat.reduceEqDiff, Nat.reduceAdd, Nat.reduceSub, Nat.reduceMul, Nat.reduceDiv, Nat.reduceMod, Nat.reduceLeDiff, Nat.reduceLT, Nat.reduceBEq, Int.reduceEq, Int.reduceBEq, Int.reduceBNe, Int.reduceLT, Int.reduceLE, Int.reduceAdd, Int.reduceSub, Int.reduceNeg, Int.reduceToNat, Int.reducePow, Nat.reducePow, Int.reduceMul, Int.reduceDiv, ↓s_ref26_name_b0, hlt, hix, c1, c3, c4]
          exact ih
        · exfalso
          simp at hok
          omega
      · have c6 : (c.toNat : Int) = 45 := by
          simp at hok
          omega
        rw [c6] at hix
        simp (disch := first | with_reducible rfl | assumption | omega | rfl | (simp only [go_sem]; first | done | omega)) only [go_sem, ↓reduceIte, reduceCtorEq, Nat.reduceEqDiff, Nat.reduceAdd, Nat.reduceSub, Nat.reduceMul, Nat.reduceDiv, Nat.reduceMod, Nat.reduceLeDiff, Nat.reduceLT, Nat.reduceBEq, Int.reduceEq, Int.reduceBEq, Int.reduceBNe, Int.reduceLT, Int.reduceLE, Int.reduceAdd, Int.reduceSub, Int.reduceNeg, Int.reduceToNat, Int.reducePow, Nat.reducePow, Int.reduceMul, Int.reduceDiv, ↓s_ref26_name_b0, hlt, hix]
        exact ih
theorem l_name_bad (s : ByteArray) (hl : (bl s).length ≤ 4611686018427387904) (H : AHeap) (KK : K) : ∀ (d i : Nat), i + d = (bl s).length → ((bl s).drop i).all okb = false →
    l_ref26_name_0 (.string s) (.int .i64 (i : Int)) H (blkK [0] 0 KK) = KK .ret [(2, .bool false)] H
  | 0, i, hi, ha => by
    rw [List.drop_eq_nil_of_le (by omega)] at ha
    cases ha
  | d + 1, i, hi, ha => by
    have h : i < (bl s).length := by omega
    have hlt : (i : Int) < ((bl s).length : Int) := by omega
    rw [List.drop_eq_getElem_cons h, List.all_cons] at ha
    have hix := ix_str h
    obtain ⟨c, hc⟩ : ∃ c, (bl s)[i] = c := ⟨_, rfl⟩
    rw [hc] at hix ha
    rw [r_ref26_name_0]
    by_cases hok : okb c = true
    · rw [hok, Bool.true_and] at ha
      have ih := l_name_bad s hl H KK d (i + 1) (by omega) ha
      rw [Int.natCast_add] at ih
      unfold okb at hok
      by_cases c1 : (97 : Int) ≤ (c.toNat : Int)
      · by_cases c2 : (c.toNat : Int) ≤ 122
        · simp (disch := first | with_reducible rfl | assumption | omega | rfl | (simp only [go_sem]; first | done | omega)) only [go_sem, ↓reduceIte, reduceCtorEq, Nat.reduceEqDiff, Nat.reduceAdd, Nat.reduceSub, Nat.reduceMul, Nat.reduceDiv, Nat.reduceMod, Nat.reduceLeDiff, Nat.reduceLT, Nat.reduceBEq, Int.reduceEq, Int.reduceBEq, Int.reduceBNe, Int.reduceLT, Int.reduceLE, Int.reduceAdd, Int.reduceSub, Int.reduceNeg, Int.reduceToNat, Int.reducePow, Nat.reducePow, Int.reduceMul, Int.reduceDiv, ↓s_ref26_name_b0, hlt, hix, c1, c2]
          exact ih
        · exfalso
          simp at hok
          omega
      · have c5 : ¬ 97 ≤ c.toNat := by omega
        by_cases c3 : (48 : Int) ≤ (c.toNat : Int)
        · by_cases c4 : (c.toNat : Int) ≤ 57
          · simp (disch := first | with_reducible rfl | assumption | omega | rfl | (simp only [go_sem]; first | done | omega)) only [go_sem, ↓reduceIte, reduceCtorEq, Nat.reduceEqDiff, Nat.reduceAdd, Nat.reduceSub, Nat.reduceMul, Nat.reduceDiv, Nat.reduceMod, Nat.reduceLeDiff, Nat.reduceLT, Nat.reduceBEq, Int.reduceEq, Int.reduceBEq, Int.reduceBNe, Int.reduceLT, Int.reduceLE, Int.reduceAdd, Int.reduceSub, Int.reduceNeg, Int.reduceToNat, Int.reducePow, Nat.reducePow, Int.reduceMul, Int.reduceDiv, ↓s_ref26_name_b0, hlt, hix, c1, c3, c4]
            exact ih
          · exfalso
            simp at hok
            omega
        · have c6 : (c.toNat : Int) = 45 := by
            simp at hok
            omega
          rw [c6] at hix
          simp (disch := first | with_reducible rfl | assumption | omega | rfl | (simp only [go_sem]; first | done | omega)) only [go_sem, ↓reduceIte, reduceCtorEq, Nat.reduceEqDiff, Nat.reduceAdd, Nat.reduceSub, Nat.reduceMul, Nat.reduceDiv, Nat.reduceMod, Nat.reduceLeDiff, Nat.reduceLT, Nat.reduceBEq, Int.reduceEq, Int.reduceBEq, Int.reduceBNe, Int.reduceLT, Int.reduceLE, Int.reduceAdd, Int.reduceSub, Int.reduceNeg, Int.reduceToNat, Int.reducePow, Nat.reducePow, Int.reduceMul, Int.reduceDiv, ↓s_ref26_name_b0, hlt, hix]
          exact ih
    · have hok : okb c = false := Bool.eq_false_iff.2 hok
      unfold okb at hok
      simp at hok
      have c6 : ¬ (c.toNat : Int) = 45 := by omega
      by_cases c1 : (97 : Int) ≤ (c.toNat : Int)
      · have c2 : ¬ (c.toNat : Int) ≤ 122 := by omega
        have c3 : (48 : Int) ≤ (c.toNat : Int) := by omega
        have c4 : ¬ (c.toNat : Int) ≤ 57 := by omega
        simp (disch := first | with_reducible rfl | assumption | omega | rfl | (simp only [go_sem]; first | done | omega)) only [go_sem, ↓reduceIte, reduceCtorEq, Nat.reduceEqDiff, Nat.reduceAdd, Nat.reduceSub, Nat.reduceMul, Nat.reduceDiv, Nat.reduceMod, Nat.reduceLeDiff, Nat.reduceLT, Nat.reduceBEq, Int.reduceEq, Int.reduceBEq, Int.reduceBNe, Int.reduceLT, Int.reduceLE, Int.reduceAdd, Int.reduceSub, Int.reduceNeg, Int.reduceToNat, Int.reducePow, Nat.reducePow, Int.reduceMul, Int.reduceDiv, ↓s_ref26_name_b0, hlt, hix, c1, c2, c3, c4, c6]
      · by_cases c3 : (48 : Int) ≤ (c.toNat : Int)
        · have c4 : ¬ (c.toNat : Int) ≤ 57 := by omega
          simp (disch := first | with_reducible rfl | assumption | omega | rfl | (simp only [go_sem]; first | done | omega)) only [go_sem, ↓reduceIte, reduceCtorEq, Nat.reduceEqDiff, Nat.reduceAdd, Nat.reduceSub, Nat.reduceMul, Nat.reduceDiv, Nat.reduceMod, Nat.reduceLeDiff, Nat.reduceLT, Nat.reduceBEq, Int.reduceEq, Int.reduceBEq, Int.reduceBNe, Int.reduceLT, Int.reduceLE, Int.reduceAdd, Int.reduceSub, Int.reduceNeg, Int.reduceToNat, Int.reducePow, Nat.reducePow, Int.reduceMul, Int.reduceDiv, ↓s_ref26_name_b0, hlt, hix, c1, c3, c4, c6]
        · simp (disch := first | with_reducible rfl | assumption | omega | rfl | (simp only [go_sem]; first | done | omega)) only [go_sem, ↓reduceIte, reduceCtorEq, Nat.reduceEqDiff, Nat.reduceAdd, Nat.reduceSub, Nat.reduceMul, Nat.reduceDiv, Nat.reduceMod, Nat.reduceLeDiff, Nat.reduceLT, Nat.reduceBEq, Int.reduceEq, Int.reduceBEq, Int.reduceBNe, Int.reduceLT, Int.reduceLE, Int.reduceAdd, Int.reduceSub, Int.reduceNeg, Int.reduceToNat, Int.reducePow, Nat.reducePow, Int.reduceMul, Int.reduceDiv, ↓s_ref26_name_b0, hlt, hix, c1, c3, c6]

theorem q_name (s : ByteArray) (hl : (bl s).length ≤ 4611686018427387904) (H : AHeap) : CC F.ref26_name [.string s] H = some (.bool (nameB s), H) := by
  unfold nameB
  cases ha : (bl s).all okb with
  | false =>
    have h := fun KK => l_name_bad s hl H KK (bl s).length 0 (by omega) (by rw [List.drop_zero]; exact ha)
    have h : ∀ KK : K, l_ref26_name_0 (.string s) (.int .i64 0) H (blkK [0] 0 KK) = KK .ret [(2, .bool false)] H := h
    apply pure_of _ (d_ref26_name _ H) rfl
    rotate_left 2
    · simp (disch := first | with_reducible rfl | assumption | omega | rfl | (simp only [go_sem]; first | done | omega)) only [go_sem, ↓reduceIte, reduceCtorEq, Nat.reduceEqDiff, Nat.reduceAdd, Nat.reduceSub, Nat.reduceMul, Nat.reduceDiv, Nat.reduceMod, Nat.reduceLeDiff, Nat.reduceLT, Nat.reduceBEq, Int.reduceEq, Int.reduceBEq, Int.reduceBNe, Int.reduceLT, Int.reduceLE, Int.reduceAdd, Int.reduceSub, Int.reduceNeg, Int.reduceToNat, Int.reducePow, Nat.reducePow, Int.reduceMul, Int.reduceDiv, ↓s_ref26_name, h]
      rfl
    · (repeat (first | exact Fr.refl _ | refine Fr.push ?_ _ | refine Fr.set ?_ _ _ (by intro h; first | omega | (simp only [go_sem] at h; omega))))
  | true =>
    have h := fun KK => l_name s hl H KK (bl s).length 0 (by omega) (by rw [List.drop_zero]; exact ha)
    have h : ∀ KK : K, l_ref26_name_0 (.string s) (.int .i64 0) H (blkK [0] 0 KK) = KK .normal [(0, .string s)] H := h
    by_cases h1 : 1 ≤ (bl s).length
    · have h1' : (1 : Int) ≤ ((bl s).length : Int) := by omega
      by_cases h2 : (bl s).length ≤ 40
      · have h2' : ((bl s).length : Int) ≤ 40 := by omega
        rw [decide_eq_true h1, decide_eq_true h2]
        apply pure_of _ (d_ref26_name _ H) rfl
        rotate_left 2
        · simp (disch := first | with_reducible rfl | assumption | omega | rfl | (simp only [go_sem]; first | done | omega)) only [go_sem, ↓reduceIte, reduceCtorEq, Nat.reduceEqDiff, Nat.reduceAdd, Nat.reduceSub, Nat.reduceMul, Nat.reduceDiv, Nat.reduceMod, Nat.reduceLeDiff, Nat.reduceLT, Nat.reduceBEq, Int.reduceEq, Int.reduceBEq, Int.reduceBNe, Int.reduceLT, Int.reduceLE, Int.reduceAdd, Int.reduceSub, Int.reduceNeg, Int.reduceToNat, Int.reducePow, Nat.reducePow, Int.reduceMul, Int.reduceDiv, ↓s_ref26_name, h, h1', h2']
          rfl
        · (repeat (first | exact Fr.refl _ | refine Fr.push ?_ _ | refine Fr.set ?_ _ _ (by intro h; first | omega | (simp only [go_sem] at h; omega))))
      · have h2' : ¬ ((bl s).length : Int) ≤ 40 := by omega
        rw [decide_eq_true h1, decide_eq_false h2]
        apply pure_of _ (d_ref26_name _ H) rfl
        rotate_left 2
        · simp (disch := first | with_reducible rfl | assumption | omega | rfl | (simp only [go_sem]; first | done | omega)) only [go_sem, ↓reduceIte, reduceCtorEq, Nat.reduceEqDiff, Nat.reduceAdd, Nat.reduceSub, Nat.reduceMul, Nat.reduceDiv, Nat.reduceMod, Nat.reduceLeDiff, Nat.reduceLT, Nat.reduceBEq, Int.reduceEq, Int.reduceBEq, Int.reduceBNe, Int.reduceLT, Int.reduceLE, Int.reduceAdd, Int.reduceSub, Int.reduceNeg, Int.reduceToNat, Int.reducePow, Nat.reducePow, Int.reduceMul, Int.reduceDiv, ↓s_ref26_name, h, h1', h2']
          rfl
        · (repeat (first | exact Fr.refl _ | refine Fr.push ?_ _ | refine Fr.set ?_ _ _ (by intro h; first | omega | (simp only [go_sem] at h; omega))))
    · have h1' : ¬ (1 : Int) ≤ ((bl s).length : Int) := by omega
      rw [decide_eq_false h1]
      apply pure_of _ (d_ref26_name _ H) rfl
      rotate_left 2
      · simp (disch := first | with_reducible rfl | assumption | omega | rfl | (simp only [go_sem]; first | done | omega)) only [go_sem, ↓reduceIte, reduceCtorEq, Nat.reduceEqDiff, Nat.reduceAdd, Nat.reduceSub, Nat.reduceMul, Nat.reduceDiv, Nat.reduceMod, Nat.reduceLeDiff, Nat.reduceLT, Nat.reduceBEq, Int.reduceEq, Int.reduceBEq, Int.reduceBNe, Int.reduceLT, Int.reduceLE, Int.reduceAdd, Int.reduceSub, Int.reduceNeg, Int.reduceToNat, Int.reducePow, Nat.reducePow, Int.reduceMul, Int.reduceDiv, ↓s_ref26_name, h, h1']
        rfl
      · (repeat (first | exact Fr.refl _ | refine Fr.push ?_ _ | refine Fr.set ?_ _ _ (by intro h; first | omega | (simp only [go_sem] at h; omega))))

/-! ### the list -/
section
variable {N : Ec} {w : Value} {d : Nat} {H : AHeap}
theorem Rd.na (hr : Rd ENa H w N) {i : Nat} (h : i < N.length) : ∃ bb o, ixS 2 w (.int .i64 (i : Int)) = some (.pointer (some ⟨bb, o, none⟩)) ∧ cellB (H.f bb) o = some (.string N[i].1) ∧ cellB (H.f bb) (o + 1) = some (.int .i64 (N[i].2 : Int)) ∧ bb < H.n ∧ blockOf w = some bb := by
  obtain ⟨bb, o, hix, hb, hc, hbl⟩ := hr.ix (q := .i64) h
  exact ⟨bb, o, hix, cutB_cell hc (i := 0) (by decide), cutB_cell hc (i := 1) (by decide), hb, hbl⟩

theorem l_rcTotal (hf : H.f d = .cells [w] T.ref26_Counter true) (hr : Rd ENa H w N) (hn : N.length ≤ 4611686018427387904) (K : K) : ∀ (m : Ec) (i a : Nat), N.drop i = m → i ≤ N.length → a + totN m ≤ 4611686018427387904 →
    l_ref26_Counter_Total_0 (.pointer (some ⟨d, 0, none⟩)) (.int .i64 (a : Int)) (.int .i64 (i : Int)) H (blkK [3] 0 K) = K .normal [(3, .int .i64 ((a + totN m : Nat) : Int))] H
  | [], i, a, hm, hi, ha => by
    have h : N.length ≤ i := List.drop_eq_nil_iff.1 hm
    have hlt : ¬ (i : Int) < (N.length : Int) := by omega
    have hlen := hr.lenS
    rw [r_ref26_Counter_Total_0]
    simp (disch := first | with_reducible rfl | assumption | omega | rfl | (simp only [go_sem]; first | done | omega)) only [go_sem, ↓reduceIte, reduceCtorEq, Nat.reduceEqDiff, Nat.reduceAdd, Nat.reduceSub, Nat.reduceMul, Nat.reduceDiv, Nat.reduceMod, Nat.reduceLeDiff, Nat.reduceLT, Nat.reduceBEq, Int.reduceEq, Int.reduceBEq, Int.reduceBNe, Int.reduceLT, Int.reduceLE, Int.reduceAdd, Int.reduceSub, Int.reduceNeg, Int.reduceToNat, Int.reducePow, Nat.reducePow, Int.reduceMul, Int.reduceDiv, ↓s_ref26_Counter_Total_b0, hf, hlen, hlt]
    rfl
  | p :: m, i, a, hm, hi, ha => by
    obtain ⟨h, hp, hm'⟩ := dropN hm
    have hlt : (i : Int) < (N.length : Int) := by omega
    have hlen := hr.lenS
    have e : totN (p :: m) = p.2 + totN m := by simp [totN]
    have ih := l_rcTotal hf hr hn K m (i + 1) (a + p.2) hm' h (by omega)
    obtain ⟨bb, o, ix, c1, c2, _, _⟩ := Rd.na hr h
    rw [hp] at c1 c2
    rw [Int.natCast_add i 1, Int.natCast_add a p.2] at ih
    rw [r_ref26_Counter_Total_0, e, ← Nat.add_assoc]
    simp (disch := first | with_reducible rfl | assumption | omega | rfl | (simp only [go_sem]; first | done | omega)) only [go_sem, ↓reduceIte, reduceCtorEq, Nat.reduceEqDiff, Nat.reduceAdd, Nat.reduceSub, Nat.reduceMul, Nat.reduceDiv, Nat.reduceMod, Nat.reduceLeDiff, Nat.reduceLT, Nat.reduceBEq, Int.reduceEq, Int.reduceBEq, Int.reduceBNe, Int.reduceLT, Int.reduceLE, Int.reduceAdd, Int.reduceSub, Int.reduceNeg, Int.reduceToNat, Int.reducePow, Nat.reducePow, Int.reduceMul, Int.reduceDiv, ↓s_ref26_Counter_Total_b0, hf, hlen, hlt, ix, c1, c2]
    exact ih
theorem q_rcTotal (hf : H.f d = .cells [w] T.ref26_Counter true) (hr : Rd ENa H w N) (hn : N.length ≤ 4611686018427387904) (ht : totN N ≤ 4611686018427387904) : CC F.ref26_Counter_Total [.pointer (some ⟨d, 0, none⟩)] H = some (.int .i64 (totN N), H) := by
  have hl : ∀ K, l_ref26_Counter_Total_0 (.pointer (some ⟨d, 0, none⟩)) (.int .i64 0) (.int .i64 0) H (blkK [3] 0 K) = K .normal [(3, .int .i64 (totN N : Int))] H := fun K => by have := l_rcTotal hf hr hn K N 0 0 rfl (Nat.zero_le _) (by omega); rw [Nat.zero_add] at this; exact this
  apply pure_of _ (d_ref26_Counter_Total _ H) rfl
  rotate_left 2
  · simp (disch := first | with_reducible rfl | assumption | omega | rfl | (simp only [go_sem]; first | done | omega)) only [go_sem, ↓reduceIte, reduceCtorEq, Nat.reduceEqDiff, Nat.reduceAdd, Nat.reduceSub, Nat.reduceMul, Nat.reduceDiv, Nat.reduceMod, Nat.reduceLeDiff, Nat.reduceLT, Nat.reduceBEq, Int.reduceEq, Int.reduceBEq, Int.reduceBNe, Int.reduceLT, Int.reduceLE, Int.reduceAdd, Int.reduceSub, Int.reduceNeg, Int.reduceToNat, Int.reducePow, Nat.reducePow, Int.reduceMul, Int.reduceDiv, ↓s_ref26_Counter_Total, hl]
    rfl
  · (repeat (first | exact Fr.refl _ | refine Fr.push ?_ _ | refine Fr.set ?_ _ _ (by intro h; first | omega | (simp only [go_sem] at h; omega))))

theorem l_rcAdd (s : ByteArray) (n : Int) (dp : Value) (hr : Rd ENa H w N) (hn : N.length ≤ 4611686018427387904) (K : K) : ∀ (m : Ec) (i : Nat), N.drop i = m → i ≤ N.length →
    l_ref26_Counter_Add_0 dp (.string s) (.int .i64 n) w (.int .i64 (i : Int)) H (blkK [0, 1, 2, 7, 8] 0 K) = K .normal [(0, dp), (1, .string s), (2, .int .i64 n), (7, w), (8, .int .i64 ((i + posN m s : Nat) : Int))] H
  | [], i, hm, hi => by
    have h : N.length ≤ i := List.drop_eq_nil_iff.1 hm
    have hlt : ¬ (i : Int) < (N.length : Int) := by omega
    have hlen := hr.lenS
    rw [r_ref26_Counter_Add_0, posN, Nat.add_zero]
    simp (disch := first | with_reducible rfl | assumption | omega | rfl | (simp only [go_sem]; first | done | omega)) only [go_sem, ↓reduceIte, reduceCtorEq, Nat.reduceEqDiff, Nat.reduceAdd, Nat.reduceSub, Nat.reduceMul, Nat.reduceDiv, Nat.reduceMod, Nat.reduceLeDiff, Nat.reduceLT, Nat.reduceBEq, Int.reduceEq, Int.reduceBEq, Int.reduceBNe, Int.reduceLT, Int.reduceLE, Int.reduceAdd, Int.reduceSub, Int.reduceNeg, Int.reduceToNat, Int.reducePow, Nat.reducePow, Int.reduceMul, Int.reduceDiv, ↓s_ref26_Counter_Add_b0, hlen, hlt]
  | p :: m, i, hm, hi => by
    obtain ⟨h, hp, hm'⟩ := dropN hm
    have hlt : (i : Int) < (N.length : Int) := by omega
    have hlen := hr.lenS
    have ih := l_rcAdd s n dp hr hn K m (i + 1) hm' h
    obtain ⟨bb, o, ix, c1, c2, _, _⟩ := Rd.na hr h
    rw [hp] at c1 c2
    rw [Int.natCast_add i 1] at ih
    rw [r_ref26_Counter_Add_0, posN]
    by_cases hc : ltS p.1 s = true
    · rw [if_pos hc]
      rw [show i + 1 + posN m s = i + (posN m s + 1) by omega] at ih
      simp (disch := first | with_reducible rfl | assumption | omega | rfl | (simp only [go_sem]; first | done | omega)) only [go_sem, ↓reduceIte, reduceCtorEq, Nat.reduceEqDiff, Nat.reduceAdd, Nat.reduceSub, Nat.reduceMul, Nat.reduceDiv, Nat.reduceMod, Nat.reduceLeDiff, Nat.reduceLT, Nat.reduceBEq, Int.reduceEq, Int.reduceBEq, Int.reduceBNe, Int.reduceLT, Int.reduceLE, Int.reduceAdd, Int.reduceSub, Int.reduceNeg, Int.reduceToNat, Int.reducePow, Nat.reducePow, Int.reduceMul, Int.reduceDiv, ↓s_ref26_Counter_Add_b0, hlen, hlt, ix, c1, hc]
      exact ih
    · rw [if_neg hc, Nat.add_zero]
      have hc : ltS p.1 s = false := Bool.eq_false_iff.2 hc
      simp (disch := first | with_reducible rfl | assumption | omega | rfl | (simp only [go_sem]; first | done | omega)) only [go_sem, ↓reduceIte, reduceCtorEq, Nat.reduceEqDiff, Nat.reduceAdd, Nat.reduceSub, Nat.reduceMul, Nat.reduceDiv, Nat.reduceMod, Nat.reduceLeDiff, Nat.reduceLT, Nat.reduceBEq, Int.reduceEq, Int.reduceBEq, Int.reduceBNe, Int.reduceLT, Int.reduceLE, Int.reduceAdd, Int.reduceSub, Int.reduceNeg, Int.reduceToNat, Int.reducePow, Nat.reducePow, Int.reduceMul, Int.reduceDiv, ↓s_ref26_Counter_Add_b0, hlen, hlt, ix, c1, hc]
end

end Go.Proofs.Ytplblfcofplcmaa

/-
  Chapter 26: the reference's counter: Add.
  Conditions: none. By an AI agent.
-/
set_option maxRecDepth 10000
set_option linter.unusedSimpArgs false
set_option linter.unusedVariables false
namespace Go.Proofs.Ytplblfcofplcmaa
open Go Eng
attribute [local congr] bareK_congr' bothK_congr' quietK_congr'

/-- Is a name at its place? -/
def atN : Ec → ByteArray → Option Nat
  | [], _ => none
  | p :: N, s => if ltS p.1 s = true then atN N s else if bl p.1 = bl s then some p.2 else none
theorem atN_spec : ∀ (N : Ec) (s : ByteArray), (atN N s = none → ∀ h : posN N s < N.length, ¬ bl N[posN N s].1 = bl s) ∧ (∀ a, atN N s = some a → ∃ h : posN N s < N.length, bl N[posN N s].1 = bl s ∧ N[posN N s].2 = a)
  | [], s => ⟨fun _ h => by simp [posN] at h, fun a h => by simp [atN] at h⟩
  | p :: N, s => by
    obtain ⟨g1, g2⟩ := atN_spec N s
    by_cases hc : ltS p.1 s = true
    · simp only [atN, posN, hc, if_true]
      refine ⟨fun h hh => ?_, fun a h => ?_⟩
      · simp only [List.getElem_cons_succ]
        exact g1 h (by simpa using hh)
      · obtain ⟨h1, h2, h3⟩ := g2 a h
        exact ⟨by simpa using h1, by simpa using h2, by simpa using h3⟩
    · simp only [atN, posN, hc, if_false]
      by_cases he : bl p.1 = bl s
      · simp only [he, if_true]
        exact ⟨fun h => by simp at h, fun a h => ⟨by simp, he, by simpa using h⟩⟩
      · simp only [he, if_false]
        exact ⟨fun _ _ => he, fun a h => by simp at h⟩

section
variable {N : Ec} {w : Value} {d : Nat} {H : AHeap}
theorem q_rcAdd_bad (s : ByteArray) (n : Int) (dp : Value) (hl : (bl s).length ≤ 4611686018427387904) (h : nameB s = false ∨ n < 0 ∨ 4611686018427387904 < n) : CC F.ref26_Counter_Add [dp, .string s, .int .i64 n] H = some (.int .i64 2, H) := by
  have e1 := q_name s hl H
  cases hb : nameB s with
  | false =>
    rw [hb] at e1
    apply pure_of _ (d_ref26_Counter_Add _ _ _ H) rfl
    rotate_left 2
    · simp (disch := first | with_reducible rfl | assumption | omega | rfl | (simp only [go_sem]; first | done | omega)) only [go_sem, ↓reduceIte, reduceCtorEq, Nat.reduceEqDiff, Nat.reduceAdd, Nat.reduceSub, Nat.reduceMul, Nat.reduceDiv, Nat.reduceMod, Nat.reduceLeDiff, Nat.reduceLT, Nat.reduceBEq, Int.reduceEq, Int.reduceBEq, Int.reduceBNe, Int.reduceLT, Int.reduceLE, Int.reduceAdd, Int.reduceSub, Int.reduceNeg, Int.reduceToNat, Int.reducePow, Nat.reducePow, Int.reduceMul, Int.reduceDiv, ↓s_ref26_Counter_Add, ↓enterK_eq e1, enterK_eq e1, Bool.not_false]
      rfl
    · (repeat (first | exact Fr.refl _ | refine Fr.push ?_ _ | refine Fr.set ?_ _ _ (by intro h; first | omega | (simp only [go_sem] at h; omega))))
  | true =>
    rw [hb] at e1
    by_cases h1 : n < 0
    · apply pure_of _ (d_ref26_Counter_Add _ _ _ H) rfl
      rotate_left 2
      · simp (disch := first | with_reducible rfl | assumption | omega | rfl | (simp only [go_sem]; first | done | omega)) only [go_sem, ↓reduceIte, reduceCtorEq, Nat.reduceEqDiff, Nat.reduceAdd, Nat.reduceSub, Nat.reduceMul, Nat.reduceDiv, Nat.reduceMod, Nat.reduceLeDiff, Nat.reduceLT, Nat.reduceBEq, Int.reduceEq, Int.reduceBEq, Int.reduceBNe, Int.reduceLT, Int.reduceLE, Int.reduceAdd, Int.reduceSub, Int.reduceNeg, Int.reduceToNat, Int.reducePow, Nat.reducePow, Int.reduceMul, Int.reduceDiv, ↓s_ref26_Counter_Add, ↓enterK_eq e1, enterK_eq e1, Bool.not_true, h1]
        rfl
      · (repeat (first | exact Fr.refl _ | refine Fr.push ?_ _ | refine Fr.set ?_ _ _ (by intro h; first | omega | (simp only [go_sem] at h; omega))))
    · have h2 : 4611686018427387904 < n := by
        rcases h with h | h
        · rw [hb] at h; cases h
        · omega
      apply pure_of _ (d_ref26_Counter_Add _ _ _ H) rfl
      rotate_left 2
      · simp (disch := first | with_reducible rfl | assumption | omega | rfl | (simp only [go_sem]; first | done | omega)) only [go_sem, ↓reduceIte, reduceCtorEq, Nat.reduceEqDiff, Nat.reduceAdd, Nat.reduceSub, Nat.reduceMul, Nat.reduceDiv, Nat.reduceMod, Nat.reduceLeDiff, Nat.reduceLT, Nat.reduceBEq, Int.reduceEq, Int.reduceBEq, Int.reduceBNe, Int.reduceLT, Int.reduceLE, Int.reduceAdd, Int.reduceSub, Int.reduceNeg, Int.reduceToNat, Int.reducePow, Nat.reducePow, Int.reduceMul, Int.reduceDiv, ↓s_ref26_Counter_Add, ↓enterK_eq e1, enterK_eq e1, Bool.not_true, h1, h2]
        rfl
      · (repeat (first | exact Fr.refl _ | refine Fr.push ?_ _ | refine Fr.set ?_ _ _ (by intro h; first | omega | (simp only [go_sem] at h; omega))))
theorem q_rcAdd_zero (s : ByteArray) (dp : Value) (hl : (bl s).length ≤ 4611686018427387904) (hb : nameB s = true) : CC F.ref26_Counter_Add [dp, .string s, .int .i64 0] H = some (.int .i64 0, H) := by
  have e1 := q_name s hl H
  rw [hb] at e1
  apply pure_of _ (d_ref26_Counter_Add _ _ _ H) rfl
  rotate_left 2
  · simp (disch := first | with_reducible rfl | assumption | omega | rfl | (simp only [go_sem]; first | done | omega)) only [go_sem, ↓reduceIte, reduceCtorEq, Nat.reduceEqDiff, Nat.reduceAdd, Nat.reduceSub, Nat.reduceMul, Nat.reduceDiv, Nat.reduceMod, Nat.reduceLeDiff, Nat.reduceLT, Nat.reduceBEq, Int.reduceEq, Int.reduceBEq, Int.reduceBNe, Int.reduceLT, Int.reduceLE, Int.reduceAdd, Int.reduceSub, Int.reduceNeg, Int.reduceToNat, Int.reducePow, Nat.reducePow, Int.reduceMul, Int.reduceDiv, ↓s_ref26_Counter_Add, ↓enterK_eq e1, enterK_eq e1, Bool.not_true]
    rfl
  · (repeat (first | exact Fr.refl _ | refine Fr.push ?_ _ | refine Fr.set ?_ _ _ (by intro h; first | omega | (simp only [go_sem] at h; omega))))
theorem q_rcAdd_sum (s : ByteArray) (n : Nat) (hl : (bl s).length ≤ 4611686018427387904) (hb : nameB s = true) (hn : 0 < n) (hn2 : n ≤ 4611686018427387904) (hf : H.f d = .cells [w] T.ref26_Counter true) (hr : Rd ENa H w N) (hlen : N.length ≤ 4611686018427387904) (ht : totN N ≤ 4611686018427387904) (hfu : 4611686018427387904 < totN N + n) :
    CC F.ref26_Counter_Add [.pointer (some ⟨d, 0, none⟩), .string s, .int .i64 (n : Int)] H = some (.int .i64 7, H) := by
  have e1 := q_name s hl H
  rw [hb] at e1
  have e2 := q_rcTotal hf hr hlen ht
  have h1 : ¬ (n : Int) < 0 := by omega
  have h2 : ¬ (4611686018427387904 : Int) < (n : Int) := by omega
  have h3 : ¬ (n : Int) = 0 := by omega
  have h4 : (4611686018427387904 : Int) - (totN N : Int) < (n : Int) := by omega
  apply pure_of _ (d_ref26_Counter_Add _ _ _ H) rfl
  rotate_left 2
  · simp (disch := first | with_reducible rfl | assumption | omega | rfl | (simp only [go_sem]; first | done | omega)) only [go_sem, ↓reduceIte, reduceCtorEq, Nat.reduceEqDiff, Nat.reduceAdd, Nat.reduceSub, Nat.reduceMul, Nat.reduceDiv, Nat.reduceMod, Nat.reduceLeDiff, Nat.reduceLT, Nat.reduceBEq, Int.reduceEq, Int.reduceBEq, Int.reduceBNe, Int.reduceLT, Int.reduceLE, Int.reduceAdd, Int.reduceSub, Int.reduceNeg, Int.reduceToNat, Int.reducePow, Nat.reducePow, Int.reduceMul, Int.reduceDiv, ↓s_ref26_Counter_Add, ↓enterK_eq e1, enterK_eq e1, Bool.not_true, h1, h2, h3, ↓enterK_eq e2, enterK_eq e2, h4]
    rfl
  · (repeat (first | exact Fr.refl _ | refine Fr.push ?_ _ | refine Fr.set ?_ _ _ (by intro h; first | omega | (simp only [go_sem] at h; omega))))

theorem q_rcAdd_old (s : ByteArray) (n a : Nat) (hl : (bl s).length ≤ 4611686018427387904) (hb : nameB s = true) (hn : 0 < n) (hf : H.f d = .cells [w] T.ref26_Counter true) (hd : d < H.n) (ok : ∀ b, H.ver b < H.clk) (hr : Rd ENa H w N) (hlen : N.length ≤ 1000) (ht : totN N + n ≤ 4611686018427387904) (hat : atN N s = some a) (ha : a + n ≤ 4611686018427387904) :
    ∃ w' H', CC F.ref26_Counter_Add [.pointer (some ⟨d, 0, none⟩), .string s, .int .i64 (n : Int)] H = some (.int .i64 0, H') ∧ H'.f d = .cells [w'] T.ref26_Counter true ∧ Rd ENa H' w' (N.set (posN N s) (s, a + n)) ∧ (∀ c, blockOf w' = some c → H.n ≤ c ∧ c < H'.n) ∧ Fr (fun c => c = d) H H' := by
  obtain ⟨hp, hk, hv⟩ := (atN_spec N s).2 a hat
  have e1 := q_name s hl H
  rw [hb] at e1
  have e2 := q_rcTotal hf hr (by omega) (by omega)
  have h1 : ¬ (n : Int) < 0 := by omega
  have h2 : ¬ (4611686018427387904 : Int) < (n : Int) := by omega
  have h3 : ¬ (n : Int) = 0 := by omega
  have h4 : ¬ (4611686018427387904 : Int) - (totN N : Int) < (n : Int) := by omega
  obtain ⟨v1, H1, happ, o1, fr1, hb1⟩ := (Own.nil (E := ENa) (H := H) (e := T.ref26_Named)).appE (m := N) (sz := 2) (bytes := 24) rfl (by simp; omega) (by simp; omega) (hr.src (sz := 2) rfl)
  have s1 : Still H H1 := fr1.mono fun c _ h => by unfold OnlyOf at h; cases h
  have hb1' : ∀ c, blockOf v1 = some c → H.n ≤ c := fun c h => by
    rcases hb1 with hb | hb
    · rw [hb] at h; cases h
    · rw [hb] at h; cases h; exact Nat.le_refl _
  rw [List.nil_append] at o1
  have hloop := l_rcAdd s (n : Int) (.pointer (some ⟨d, 0, none⟩)) o1.rd (by omega)
  have hloop : ∀ K, l_ref26_Counter_Add_0 (.pointer (some ⟨d, 0, none⟩)) (.string s) (.int .i64 (n : Int)) v1 (.int .i64 0) H1 (blkK [0, 1, 2, 7, 8] 0 K) = K .normal [(0, .pointer (some ⟨d, 0, none⟩)), (1, .string s), (2, .int .i64 (n : Int)), (7, v1), (8, .int .i64 (posN N s : Int))] H1 := fun K => by
    have := hloop K N 0 rfl (Nat.zero_le _)
    rw [Nat.zero_add] at this
    exact this
  have hlt : (posN N s : Int) < (N.length : Int) := by omega
  have hlen1 := o1.rd.lenS
  have hs : N[posN N s].1 = s := Eng.bl_inj hk
  obtain ⟨bb, o, H2, ix, c1, c2, hst, o2, hbl, hbn, hn2, fr2, hver⟩ := o1.second rfl (f := fun p => .string p.1) (g := fun p => .int .i64 (p.2 : Int)) (fun _ => rfl) (fun _ => rfl) (fun _ => rfl) hp (s, a + n) (by rw [hs])
  simp only at c1 c2 hst
  rw [hv] at c2
  rw [Int.natCast_add] at hst
  have hbb := hb1' bb hbl
  have s2 : Still H H2 := s1.then fr2 fun c hc h => by omega
  have f2 : H2.f d = .cells [w] T.ref26_Counter true := by rw [s2.f hd fun h => h]; exact hf
  obtain ⟨H3, hH3⟩ : ∃ H3, H2.set d (.cells [v1] T.ref26_Counter true) = H3 := ⟨_, rfl⟩
  have fr3 : Fr (fun c => c = d) H2 H3 := by rw [← hH3]; exact (Fr.refl H2).set d _ fun _ => rfl
  have hone : Eng.one v1 = true := o1.cell
  have o3 : Own ENa H3 T.ref26_Named v1 (N.set (posN N s) (s, a + n)) := o2.keep fr3 fun c hc h => by have := hb1' c hc; omega
  have hkk : bl N[posN N s].1 = bl s := hk
  refine ⟨v1, H3, (d_ref26_Counter_Add _ _ _ H (r := (.int .i64 0, H3)) ?_).trans (congrArg some (tidy_turned hd (ok d) (by rw [← hH3, set_v_eq]; exact s2.clk))), by rw [← hH3]; exact set_f_eq, o3.rd, fun c hc => ⟨hb1' c hc, o3.blk hc⟩, s2.still.trans fr3⟩
  simp (disch := first | with_reducible rfl | assumption | omega | rfl | (simp only [go_sem]; first | done | omega)) only [go_sem, ↓reduceIte, reduceCtorEq, Nat.reduceEqDiff, Nat.reduceAdd, Nat.reduceSub, Nat.reduceMul, Nat.reduceDiv, Nat.reduceMod, Nat.reduceLeDiff, Nat.reduceLT, Nat.reduceBEq, Int.reduceEq, Int.reduceBEq, Int.reduceBNe, Int.reduceLT, Int.reduceLE, Int.reduceAdd, Int.reduceSub, Int.reduceNeg, Int.reduceToNat, Int.reducePow, Nat.reducePow, Int.reduceMul, Int.reduceDiv, ↓s_ref26_Counter_Add, ↓enterK_eq e1, enterK_eq e1, Bool.not_true, h1, h2, h3, ↓enterK_eq e2, enterK_eq e2, h4, hf, happ, hloop, hlen1, hlt, ix, c1, hkk, decide_true, c2, hst, f2, hH3, hone]

theorem q_rcAdd_many (s : ByteArray) (n : Nat) (hl : (bl s).length ≤ 4611686018427387904) (hb : nameB s = true) (hn : 0 < n) (hf : H.f d = .cells [w] T.ref26_Counter true) (hr : Rd ENa H w N) (hlen : N.length = 1000) (ht : totN N + n ≤ 4611686018427387904) (hat : atN N s = none) :
    CC F.ref26_Counter_Add [.pointer (some ⟨d, 0, none⟩), .string s, .int .i64 (n : Int)] H = some (.int .i64 7, H) := by
  have hna := (atN_spec N s).1 hat
  have e1 := q_name s hl H
  rw [hb] at e1
  have e2 := q_rcTotal hf hr (by omega) (by omega)
  have h1 : ¬ (n : Int) < 0 := by omega
  have h2 : ¬ (4611686018427387904 : Int) < (n : Int) := by omega
  have h3 : ¬ (n : Int) = 0 := by omega
  have h4 : ¬ (4611686018427387904 : Int) - (totN N : Int) < (n : Int) := by omega
  obtain ⟨v1, H1, happ, o1, fr1, hb1⟩ := (Own.nil (E := ENa) (H := H) (e := T.ref26_Named)).appE (m := N) (sz := 2) (bytes := 24) rfl (by simp; omega) (by simp; omega) (hr.src (sz := 2) rfl)
  have s1 : Still H H1 := fr1.mono fun c _ h => by unfold OnlyOf at h; cases h
  rw [List.nil_append] at o1
  have hloop := l_rcAdd s (n : Int) (.pointer (some ⟨d, 0, none⟩)) o1.rd (by omega)
  have hloop : ∀ K, l_ref26_Counter_Add_0 (.pointer (some ⟨d, 0, none⟩)) (.string s) (.int .i64 (n : Int)) v1 (.int .i64 0) H1 (blkK [0, 1, 2, 7, 8] 0 K) = K .normal [(0, .pointer (some ⟨d, 0, none⟩)), (1, .string s), (2, .int .i64 (n : Int)), (7, v1), (8, .int .i64 (posN N s : Int))] H1 := fun K => by
    have := hloop K N 0 rfl (Nat.zero_le _)
    rw [Nat.zero_add] at this
    exact this
  have hlen1 := o1.rd.lenS
  rw [hlen] at hlen1
  have hlen1 : lenS v1 = some (.int .i64 1000) := hlen1
  by_cases hp : posN N s < N.length
  · have hlt : (posN N s : Int) < 1000 := by omega
    obtain ⟨bb, o, ix, c1, c2, _, _⟩ := Rd.na o1.rd hp
    have hk := hna hp
    apply pure_of _ (d_ref26_Counter_Add _ _ _ H) rfl
    rotate_left 2
    · simp (disch := first | with_reducible rfl | assumption | omega | rfl | (simp only [go_sem]; first | done | omega)) only [go_sem, ↓reduceIte, reduceCtorEq, Nat.reduceEqDiff, Nat.reduceAdd, Nat.reduceSub, Nat.reduceMul, Nat.reduceDiv, Nat.reduceMod, Nat.reduceLeDiff, Nat.reduceLT, Nat.reduceBEq, Int.reduceEq, Int.reduceBEq, Int.reduceBNe, Int.reduceLT, Int.reduceLE, Int.reduceAdd, Int.reduceSub, Int.reduceNeg, Int.reduceToNat, Int.reducePow, Nat.reducePow, Int.reduceMul, Int.reduceDiv, ↓s_ref26_Counter_Add, ↓enterK_eq e1, enterK_eq e1, Bool.not_true, h1, h2, h3, ↓enterK_eq e2, enterK_eq e2, h4, hf, happ, hloop, hlen1, hlt, ix, c1, decide_eq_false hk]
      rfl
    · exact s1
  · have hlt : ¬ (posN N s : Int) < 1000 := by omega
    apply pure_of _ (d_ref26_Counter_Add _ _ _ H) rfl
    rotate_left 2
    · simp (disch := first | with_reducible rfl | assumption | omega | rfl | (simp only [go_sem]; first | done | omega)) only [go_sem, ↓reduceIte, reduceCtorEq, Nat.reduceEqDiff, Nat.reduceAdd, Nat.reduceSub, Nat.reduceMul, Nat.reduceDiv, Nat.reduceMod, Nat.reduceLeDiff, Nat.reduceLT, Nat.reduceBEq, Int.reduceEq, Int.reduceBEq, Int.reduceBNe, Int.reduceLT, Int.reduceLE, Int.reduceAdd, Int.reduceSub, Int.reduceNeg, Int.reduceToNat, Int.reducePow, Nat.reducePow, Int.reduceMul, Int.reduceDiv, ↓s_ref26_Counter_Add, ↓enterK_eq e1, enterK_eq e1, Bool.not_true, h1, h2, h3, ↓enterK_eq e2, enterK_eq e2, h4, hf, happ, hloop, hlen1, hlt]
      rfl
    · exact s1
end

end Go.Proofs.Ytplblfcofplcmaa

/-
  Chapter 26: the reference's counter: a new name.
  Conditions: none. By an AI agent.
-/
set_option maxRecDepth 10000
set_option linter.unusedSimpArgs false
set_option linter.unusedVariables false
namespace Go.Proofs.Ytplblfcofplcmaa
open Go Eng
attribute [local congr] bareK_congr' bothK_congr' quietK_congr'

section
variable {N : Ec} {w : Value} {d : Nat} {H : AHeap}
theorem q_rcAdd_new (s : ByteArray) (n : Nat) (hl : (bl s).length ≤ 4611686018427387904) (hb : nameB s = true) (hn : 0 < n) (hf : H.f d = .cells [w] T.ref26_Counter true) (hd : d < H.n) (ok : ∀ b, H.ver b < H.clk) (hr : Rd ENa H w N) (hlen : N.length < 1000) (ht : totN N + n ≤ 4611686018427387904) (hat : atN N s = none) :
    ∃ w' H', CC F.ref26_Counter_Add [.pointer (some ⟨d, 0, none⟩), .string s, .int .i64 (n : Int)] H = some (.int .i64 0, H') ∧ H'.f d = .cells [w'] T.ref26_Counter true ∧ Rd ENa H' w' (N.take (posN N s) ++ (s, n) :: N.drop (posN N s)) ∧ (∀ c, blockOf w' = some c → H.n ≤ c ∧ c < H'.n) ∧ Fr (fun c => c = d) H H' := by
  have hna := (atN_spec N s).1 hat
  have hpl := posN_le N s
  have e1 := q_name s hl H
  rw [hb] at e1
  have e2 := q_rcTotal hf hr (by omega) (by omega)
  have h1 : ¬ (n : Int) < 0 := by omega
  have h2 : ¬ (4611686018427387904 : Int) < (n : Int) := by omega
  have h3 : ¬ (n : Int) = 0 := by omega
  have h4 : ¬ (4611686018427387904 : Int) - (totN N : Int) < (n : Int) := by omega
  have h5 : ¬ (1000 : Int) ≤ (N.length : Int) := by omega
  obtain ⟨v1, H1, happ, o1, fr1, hb1⟩ := (Own.nil (E := ENa) (H := H) (e := T.ref26_Named)).appE (m := N) (sz := 2) (bytes := 24) rfl (by simp; omega) (by simp; omega) (hr.src (sz := 2) rfl)
  have s1 : Still H H1 := fr1.mono fun c _ h => by unfold OnlyOf at h; cases h
  rw [List.nil_append] at o1
  have hloop := l_rcAdd s (n : Int) (.pointer (some ⟨d, 0, none⟩)) o1.rd (by omega)
  have hloop : ∀ K, l_ref26_Counter_Add_0 (.pointer (some ⟨d, 0, none⟩)) (.string s) (.int .i64 (n : Int)) v1 (.int .i64 0) H1 (blkK [0, 1, 2, 7, 8] 0 K) = K .normal [(0, .pointer (some ⟨d, 0, none⟩)), (1, .string s), (2, .int .i64 (n : Int)), (7, v1), (8, .int .i64 (posN N s : Int))] H1 := fun K => by
    have := hloop K N 0 rfl (Nat.zero_le _)
    rw [Nat.zero_add] at this
    exact this
  have hlen1 := o1.rd.lenS
  -- the new list
  obtain ⟨H2, hH2⟩ : ∃ H2, H1.push (.cells [.string s, .int .i64 (n : Int)] T.ref26_Named true) = H2 := ⟨_, rfl⟩
  have s2 : Still H1 H2 := by rw [← hH2]; exact (Fr.refl H1).push _
  have n2 : H2.n = H1.n + 1 := by rw [← hH2]; rfl
  have f2 : H2.f H1.n = .cells [.string s, .int .i64 (n : Int)] T.ref26_Named true := by rw [← hH2]; exact push_f_eq rfl
  have o2 := o1.still s2
  obtain ⟨vd, hsd, od, _⟩ := o2.drop (sz := 2) rfl hpl (q := .i64)
  have rl : Rd ENa H2 (.slice (some ⟨H1.n, 0, none⟩) 1 (2 * 1)) [(s, n)] := .inr (.inr ⟨H1.n, 0, _, rfl, by simp, by omega, by rw [f2]; rfl⟩)
  obtain ⟨v3, H3, happ3, r3, s3, _⟩ := rl.appX (e := T.ref26_Named) (m := N.drop (posN N s)) (sz := 2) (bytes := 24) rfl (by simp; omega) (by simp; omega) (od.rd.src (sz := 2) rfl) (by simp)
  have happ3 : app T.ref26_Named 2 24 (.slice (some ⟨H1.n, 0, none⟩) 1 2) (srcS 2 vd H2) H2 = some (v3, H3) := happ3
  obtain ⟨vt, hst, rt⟩ := (o2.still s3).hi (sz := 2) rfl hpl (q := .i64)
  obtain ⟨v4, H4, happ4, o4, fr4, hb4⟩ := (Own.nil (E := ENa) (H := H3) (e := T.ref26_Named)).appE (m := N.take (posN N s)) (sz := 2) (bytes := 24) rfl (by simp; omega) (by simp; omega) (rt.src (sz := 2) rfl)
  have s4 : Still H3 H4 := fr4.mono fun c _ h => by unfold OnlyOf at h; cases h
  rw [List.nil_append] at o4
  obtain ⟨v5, H5, happ5, o5, fr5, hb5⟩ := o4.appE (m := (s, n) :: N.drop (posN N s)) (sz := 2) (bytes := 24) rfl (by simp; omega) (by simp; omega) ((r3.still s4).src (sz := 2) rfl)
  have k1 := s1.n
  have k2 := s2.n
  have k3 := s3.n
  have k4 := s4.n
  have k5 := fr5.n
  have hb4' : ∀ c, blockOf v4 = some c → H.n ≤ c := fun c h => by
    rcases hb4 with hb | hb
    · rw [hb] at h; cases h
    · rw [hb] at h; cases h; omega
  have hb5' : ∀ c, blockOf v5 = some c → H.n ≤ c := fun c h => by
    rcases hb5 with hb | hb
    · rw [hb] at h; exact hb4' c h
    · rw [hb] at h; cases h; omega
  have t4 : Still H H4 := ((s1.then s2 fun c _ h => h).then s3 fun c _ h => h).then s4 fun c _ h => h
  have t5 : Still H H5 := t4.then fr5 fun c hc h => by unfold OnlyOf at h; have := hb4' c h; omega
  have f5 : H5.f d = .cells [w] T.ref26_Counter true := by rw [t5.f hd fun h => h]; exact hf
  have hone : Eng.one v5 = true := o5.cell
  obtain ⟨H6, hH6⟩ : ∃ H6, H5.set d (.cells [v5] T.ref26_Counter true) = H6 := ⟨_, rfl⟩
  have fr6 : Fr (fun c => c = d) H5 H6 := by rw [← hH6]; exact (Fr.refl H5).set d _ fun _ => rfl
  have o6 := o5.keep fr6 fun c hc h => by have := hb5' c hc; omega
  refine ⟨v5, H6, (d_ref26_Counter_Add _ _ _ H (r := (.int .i64 0, H6)) ?_).trans (congrArg some (tidy_turned hd (ok d) (by rw [← hH6, set_v_eq]; exact t5.clk))), by rw [← hH6]; exact set_f_eq, o6.rd, fun c hc => ⟨hb5' c hc, o6.blk hc⟩, t5.still.trans fr6⟩
  by_cases hp : posN N s < N.length
  · have hlt : (posN N s : Int) < (N.length : Int) := by omega
    obtain ⟨bb, o, ix, c1, c2, _, _⟩ := Rd.na o1.rd hp
    have hk := hna hp
    simp (disch := first | with_reducible rfl | assumption | omega | rfl | (simp only [go_sem]; first | done | omega)) only [go_sem, ↓reduceIte, reduceCtorEq, Nat.reduceEqDiff, Nat.reduceAdd, Nat.reduceSub, Nat.reduceMul, Nat.reduceDiv, Nat.reduceMod, Nat.reduceLeDiff, Nat.reduceLT, Nat.reduceBEq, Int.reduceEq, Int.reduceBEq, Int.reduceBNe, Int.reduceLT, Int.reduceLE, Int.reduceAdd, Int.reduceSub, Int.reduceNeg, Int.reduceToNat, Int.reducePow, Nat.reducePow, Int.reduceMul, Int.reduceDiv, ↓s_ref26_Counter_Add, ↓enterK_eq e1, enterK_eq e1, Bool.not_true, h1, h2, h3, ↓enterK_eq e2, enterK_eq e2, h4, hf, happ, hloop, hlen1, hlt, ix, c1, decide_eq_false hk, h5, hH2, hsd, happ3, hst, happ4, happ5, f5, hH6, hone]
  · have hlt : ¬ (posN N s : Int) < (N.length : Int) := by omega
    simp (disch := first | with_reducible rfl | assumption | omega | rfl | (simp only [go_sem]; first | done | omega)) only [go_sem, ↓reduceIte, reduceCtorEq, Nat.reduceEqDiff, Nat.reduceAdd, Nat.reduceSub, Nat.reduceMul, Nat.reduceDiv, Nat.reduceMod, Nat.reduceLeDiff, Nat.reduceLT, Nat.reduceBEq, Int.reduceEq, Int.reduceBEq, Int.reduceBNe, Int.reduceLT, Int.reduceLE, Int.reduceAdd, Int.reduceSub, Int.reduceNeg, Int.reduceToNat, Int.reducePow, Nat.reducePow, Int.reduceMul, Int.reduceDiv, ↓s_ref26_Counter_Add, ↓enterK_eq e1, enterK_eq e1, Bool.not_true, h1, h2, h3, ↓enterK_eq e2, enterK_eq e2, h4, hf, happ, hloop, hlen1, hlt, h5, hH2, hsd, happ3, hst, happ4, happ5, f5, hH6, hone]
end

/-! ### a map's entries and the list -/
theorem lt_iff {a b : ByteArray} : ltS a b = true ↔ bl a < bl b := by unfold ltS; rw [less_lt]; simp
structure Srt (N : Ec) : Prop where
  lt : N.Pairwise fun p q => bl p.1 < bl q.1
def insN : Ec → ByteArray → Nat → Ec
  | [], s, a => [(s, a)]
  | p :: N, s, a => if ltS p.1 s = true then p :: insN N s a else if bl p.1 = bl s then (s, a) :: N else (s, a) :: p :: N
theorem ins_old : ∀ {N : Ec} {s : ByteArray} {a b : Nat}, atN N s = some b → N.set (posN N s) (s, a) = insN N s a
  | [], s, a, b, h => by simp [atN] at h
  | p :: N, s, a, b, h => by
    rw [atN] at h
    rw [posN, insN]
    by_cases hc : ltS p.1 s = true
    · rw [if_pos hc] at h
      rw [if_pos hc, if_pos hc, List.set_cons_succ, ins_old h]
    · rw [if_neg hc] at h
      rw [if_neg hc, if_neg hc]
      by_cases he : bl p.1 = bl s
      · rw [if_pos he]; rfl
      · rw [if_neg he] at h; cases h
theorem ins_new : ∀ {N : Ec} {s : ByteArray} {a : Nat}, atN N s = none → N.take (posN N s) ++ (s, a) :: N.drop (posN N s) = insN N s a
  | [], s, a, h => rfl
  | p :: N, s, a, h => by
    rw [atN] at h
    rw [posN, insN]
    by_cases hc : ltS p.1 s = true
    · rw [if_pos hc] at h
      rw [if_pos hc, if_pos hc, List.take_succ_cons, List.drop_succ_cons, List.cons_append, ins_new h]
    · rw [if_neg hc] at h
      rw [if_neg hc, if_neg hc]
      by_cases he : bl p.1 = bl s
      · rw [if_pos he] at h; cases h
      · rw [if_neg he]; rfl
theorem ins_mem : ∀ {N : Ec} {s : ByteArray} {a : Nat} {q : ByteArray × Nat}, q ∈ insN N s a → q = (s, a) ∨ q ∈ N
  | [], s, a, q, h => by simp [insN] at h; exact .inl h
  | p :: N, s, a, q, h => by
    rw [insN] at h
    split at h
    · rcases List.mem_cons.1 h with rfl | h
      · exact .inr (by simp)
      · exact (ins_mem h).imp id fun h => by simp [h]
    · split at h
      · rcases List.mem_cons.1 h with rfl | h
        · exact .inl rfl
        · exact .inr (by simp [h])
      · rcases List.mem_cons.1 h with rfl | h
        · exact .inl rfl
        · exact .inr h
theorem ins_srt : ∀ {N : Ec} (s : ByteArray) (a : Nat), Srt N → Srt (insN N s a)
  | [], s, a, _ => ⟨by simp [insN]⟩
  | p :: N, s, a, h => by
    have hp := List.pairwise_cons.1 h.lt
    rw [insN]
    by_cases hc : ltS p.1 s = true
    · rw [if_pos hc]
      refine ⟨List.pairwise_cons.2 ⟨fun q hq => ?_, (ins_srt s a ⟨hp.2⟩).lt⟩⟩
      rcases ins_mem hq with rfl | hq
      · exact lt_iff.1 hc
      · exact hp.1 q hq
    · rw [if_neg hc]
      have hc' : ¬ bl p.1 < bl s := fun h => hc (lt_iff.2 h)
      by_cases he : bl p.1 = bl s
      · rw [if_pos he]
        exact ⟨List.pairwise_cons.2 ⟨fun q hq => by show bl s < bl q.1; rw [← he]; exact hp.1 q hq, hp.2⟩⟩
      · rw [if_neg he]
        have hlt : bl s < bl p.1 := by
          have h1 : bl s ≤ bl p.1 := List.not_lt.1 hc'
          rcases List.le_iff_lt_or_eq.1 h1 with h2 | h2
          · exact h2
          · exact absurd h2.symm he
        exact ⟨List.pairwise_cons.2 ⟨fun q hq => by
          rcases List.mem_cons.1 hq with rfl | hq
          · exact hlt
          · exact List.lt_trans hlt (hp.1 q hq), h.lt⟩⟩

end Go.Proofs.Ytplblfcofplcmaa

/-
  Chapter 26: names, as the reference says it.
  Conditions: none. By an AI agent.
-/
set_option maxRecDepth 10000
set_option linter.unusedSimpArgs false
set_option linter.unusedVariables false
namespace Go.Proofs.Ytplblfcofplcmaa
open Go Eng

theorem odd_okb : ∀ c : Fin 128, pOdd c.val = !okb (UInt8.ofNat c.val) := by decide +kernel
theorem get_bl {s : ByteArray} {pos : Nat} (h : pos < s.size) : ∃ c, (bl s).drop pos = c :: (bl s).drop (pos + 1) ∧ s.get! pos = c := by
  have h1 : pos < (bl s).length := by simpa [bl] using h
  refine ⟨(bl s)[pos], List.drop_eq_getElem_cons h1, ?_⟩
  show s.data[pos]! = _
  have : pos < s.data.size := h
  simp [getElem!_pos s.data pos this, bl]
theorem scan (s : ByteArray) : ∀ f pos, pos + f = s.size → decide (0 ≤ Lib.idxFuncFrom pAll true s f pos) = !((bl s).drop pos).all okb
  | 0, pos, h => by
    have : (bl s).drop pos = [] := List.drop_eq_nil_of_le (by simp [bl]; omega)
    rw [this]
    rfl
  | f + 1, pos, h => by
    have hp : pos < s.size := by omega
    obtain ⟨c, hd, hg⟩ := get_bl hp
    rw [Lib.idxFuncFrom, if_pos hp, hd, List.all_cons]
    by_cases hc : c.toNat < 128
    · have hdec : Utf8.decode s pos = (c.toNat, 1) := by
        unfold Utf8.decode
        simp only [Nat.add_zero, hg, hc, if_true]
      have ho := odd_okb ⟨c.toNat, hc⟩
      simp only at ho
      have e : UInt8.ofNat c.toNat = c := by simp
      rw [e] at ho
      rw [hdec]
      simp only [pAll, hc, if_true, ho]
      cases hk : okb c with
      | true => simp only [Bool.not_true, Bool.false_eq_true, if_false, Bool.true_and]; exact scan s f (pos + 1) (by omega)
      | false => simp
    · have hh : 128 ≤ (Utf8.decode s pos).1 := by
        have h1 := dec_ok s pos hp
        by_cases hx : (Utf8.decode s pos).1 < 128
        · exfalso
          have hsz : (s[pos]'hp) = c := by
            have : s.get! pos = s[pos]'hp := by
              show s.data[pos]! = s.data[pos]
              exact getElem!_pos s.data pos hp
            rw [← this, hg]
          have := (Go.decode_high s pos hp (by rw [hsz]; omega)).1
          omega
        · omega
      have hp' : pAll (Utf8.decode s pos).1 = true := by unfold pAll; rw [if_neg (by omega)]
      have hk : okb c = false := by
        unfold okb
        simp
        omega
      rw [if_pos hp', hk]
      simp
theorem named_name (s : ByteArray) : namedA s = nameB s := by
  unfold namedA nameB Lib.idxFunc
  rw [scan s s.size 0 (by omega), List.drop_zero]
  have : (bl s).length = s.size := by simp [bl]
  rw [this]
  cases (bl s).all okb <;> simp

end Go.Proofs.Ytplblfcofplcmaa

/-
  Chapter 26: a map's entries and the reference's list.
  Conditions: none. By an AI agent.
-/
set_option maxRecDepth 10000
set_option linter.unusedSimpArgs false
set_option linter.unusedVariables false
namespace Go.Proofs.Ytplblfcofplcmaa
open Go Eng

theorem bl_eq {a b : ByteArray} : bl a = bl b ↔ a = b := ⟨fun h => Eng.bl_inj h, fun h => by rw [h]⟩
theorem lkp_low {N : Ec} {s : ByteArray} (h : ∀ p ∈ N, bl s < bl p.1) : lkp N s = none := by
  induction N with
  | nil => rfl
  | cons p N ih =>
    rw [lkp, if_neg, ih fun q hq => h q (by simp [hq])]
    intro e
    have := h p (by simp)
    rw [e] at this
    exact absurd this (List.lt_irrefl _)
theorem atN_lkp : ∀ {N : Ec} (s : ByteArray), Srt N → atN N s = lkp N s
  | [], s, _ => rfl
  | p :: N, s, h => by
    have hp := List.pairwise_cons.1 h.lt
    rw [atN, lkp]
    by_cases hc : ltS p.1 s = true
    · have hlt := lt_iff.1 hc
      rw [if_pos hc, if_neg (fun e => by rw [e] at hlt; exact absurd hlt (List.lt_irrefl _)), atN_lkp s ⟨hp.2⟩]
    · rw [if_neg hc]
      by_cases he : bl p.1 = bl s
      · rw [if_pos he, if_pos (bl_eq.1 he).symm]
      · rw [if_neg he, if_neg (fun e => he (by rw [e]))]
        have hc' : ¬ bl p.1 < bl s := fun h => hc (lt_iff.2 h)
        have hlt : bl s < bl p.1 := by
          have h1 : bl s ≤ bl p.1 := List.not_lt.1 hc'
          rcases List.le_iff_lt_or_eq.1 h1 with h2 | h2
          · exact h2
          · exact absurd h2.symm he
        exact (lkp_low fun q hq => List.lt_trans hlt (hp.1 q hq)).symm
theorem lkp_ins : ∀ {N : Ec} (s j : ByteArray) (a : Nat), Srt N → lkp (insN N s a) j = if s = j then some a else lkp N j
  | [], s, j, a, _ => by
    simp only [insN, lkp]
    by_cases h : s = j
    · simp [h]
    · rw [if_neg (fun e => h e.symm), if_neg h]
  | p :: N, s, j, a, h => by
    have hp := List.pairwise_cons.1 h.lt
    rw [insN]
    by_cases hc : ltS p.1 s = true
    · have hlt := lt_iff.1 hc
      have hne : ¬ s = p.1 := fun e => by rw [e] at hlt; exact absurd hlt (List.lt_irrefl _)
      rw [if_pos hc, lkp, lkp, lkp_ins s j a ⟨hp.2⟩]
      by_cases hj : j = p.1
      · rw [if_pos hj, if_pos hj, if_neg (fun e => hne (by rw [e, hj]))]
      · rw [if_neg hj, if_neg hj]
    · rw [if_neg hc]
      by_cases he : bl p.1 = bl s
      · have he' := bl_eq.1 he
        rw [if_pos he, lkp, lkp]
        by_cases hj : s = j
        · rw [if_pos hj.symm, if_pos hj]
        · rw [if_neg (fun e => hj e.symm), if_neg hj, if_neg (fun e => hj (by rw [e, he']))]
      · rw [if_neg he, lkp]
        by_cases hj : s = j
        · rw [if_pos hj.symm, if_pos hj]
        · rw [if_neg (fun e => hj e.symm), if_neg hj]
theorem tot_ins : ∀ {N : Ec} (s : ByteArray) (n : Nat), Srt N → totN (insN N s ((lkp N s).getD 0 + n)) = totN N + n
  | [], s, n, _ => by simp [insN, totN, lkp]
  | p :: N, s, n, h => by
    have hp := List.pairwise_cons.1 h.lt
    have hat := atN_lkp s h
    rw [← hat, atN, insN]
    by_cases hc : ltS p.1 s = true
    · rw [if_pos hc, if_pos hc, atN_lkp s ⟨hp.2⟩]
      have ih := tot_ins s n ⟨hp.2⟩ (N := N)
      simp only [totN, List.map_cons, List.sum_cons] at ih ⊢
      omega
    · rw [if_neg hc, if_neg hc]
      by_cases he : bl p.1 = bl s
      · rw [if_pos he, if_pos he]
        simp only [totN, List.map_cons, List.sum_cons, Option.getD_some]
        omega
      · rw [if_neg he, if_neg he]
        simp only [totN, List.map_cons, List.sum_cons, Option.getD_none]
        omega

structure RelC (E N : Ec) : Prop where
  lk : ∀ s, lkp E s = lkp N s
  nd : (E.map (·.1)).Nodup
  srt : Srt N
theorem RelC.put {E N : Ec} (r : RelC E N) (s : ByteArray) (a : Nat) : RelC (putE E s a) (insN N s a) :=
  ⟨fun j => by rw [lkp_put, lkp_ins s j a r.srt, r.lk], keys_put_nodup r.nd s a, ins_srt s a r.srt⟩
theorem RelC.nd2 {E N : Ec} (r : RelC E N) : (N.map (·.1)).Nodup := by
  rw [List.Nodup, List.pairwise_map]
  exact r.srt.lt.imp fun {p q} h e => by rw [e] at h; exact absurd h (List.lt_irrefl _)
theorem RelC.perm {E N : Ec} (r : RelC E N) : (E.map (·.1)).Perm (N.map (·.1)) :=
  (List.perm_ext_iff_of_nodup r.nd r.nd2).2 fun s => by
    rw [← lkp_key, ← lkp_key]
    unfold has
    rw [r.lk]
theorem RelC.len {E N : Ec} (r : RelC E N) : E.length = N.length := by
  have := r.perm.length_eq
  simpa using this
theorem RelC.names {E N : Ec} (r : RelC E N) : sortS (E.map fun p => p.1.data.toList) = N.map fun p => p.1.data.toList := by
  have h1 : (E.map fun p => p.1.data.toList).Perm (N.map fun p => p.1.data.toList) := by
    have := r.perm.map fun s : ByteArray => s.data.toList
    rw [List.map_map, List.map_map] at this
    exact this
  have h2 : (N.map fun p => p.1.data.toList).Pairwise fun a b => Go.leB a b = true := by
    rw [List.pairwise_map]
    exact r.srt.lt.imp fun {p q} h => decide_eq_true (List.le_of_lt h)
  rw [← sortS_merge h1.symm]
  exact List.mergeSort_of_pairwise h2
theorem RelC.empty : RelC [] [] := ⟨fun _ => rfl, by simp, ⟨List.Pairwise.nil⟩⟩

end Go.Proofs.Ytplblfcofplcmaa

/-
  Chapter 26: counters: the other cases of Add; Get of what is not there; copies.
  Conditions: none. By an AI agent.
-/
set_option maxRecDepth 10000
set_option linter.unusedSimpArgs false
set_option linter.unusedVariables false
namespace Go.Proofs.Ytplblfcofplcmaa
open Go Eng
attribute [local congr] bareK_congr' bothK_congr' quietK_congr'

/-- A counter, with a map or without. -/
def MapIs (H : AHeap) (c : Nat) (m : Option Nat) (E : Ec) : Prop := match m with
  | none => E = []
  | some mb => H.f mb = .map (entsOf E) ∧ mb < H.n ∧ mb ≠ c
section
variable {H : AHeap} {c : Nat} {m : Option Nat} {E : Ec} {tot : Nat}

theorem look_any (h : MapIs H c m E) (s : ByteArray) : ∃ is, xlookup Try.prog T.map_string_int (.map m) (.string s) true H = some (.tuple #[.int .i64 (((lkp E s).getD 0 : Nat) : Int), .bool is]) ∧ is = (lkp E s).isSome := by
  cases m with
  | none =>
    obtain rfl : E = [] := h
    exact ⟨false, look_nil mt (k := s) true, rfl⟩
  | some mb =>
    obtain ⟨h1, _, _⟩ := h
    cases hk : lkp E s with
    | none => exact ⟨false, look_none mt h1 (ent_of E) hk true, rfl⟩
    | some a =>
      obtain ⟨v, hl, hv⟩ := look_some mt h1 (ent_of E) hk true
      have hv : v = .int .i64 (a : Int) := hv
      subst hv
      exact ⟨true, hl, rfl⟩
theorem look_get (h : MapIs H c m E) (s : ByteArray) : xlookup Try.prog T.map_string_int (.map m) (.string s) false H = some (.int .i64 (((lkp E s).getD 0 : Nat) : Int)) := by
  cases m with
  | none =>
    obtain rfl : E = [] := h
    exact look_nil mt (k := s) false
  | some mb =>
    obtain ⟨h1, _, _⟩ := h
    cases hk : lkp E s with
    | none => exact look_none mt h1 (ent_of E) hk false
    | some a =>
      obtain ⟨v, hl, hv⟩ := look_some mt h1 (ent_of E) hk false
      have hv : v = .int .i64 (a : Int) := hv
      subst hv
      exact hl
theorem q_gGet (h : MapIs H c m E) (hf : H.f c = .cells [.map m, .int .i64 (tot : Int)] T.stats_Counter true) (s : ByteArray) : CC F.stats_Counter_Get [.pointer (some ⟨c, 0, none⟩), .string s] H = some (.int .i64 (((lkp E s).getD 0 : Nat) : Int), H) := by
  have hl := look_get h s
  apply pure_of _ (d_stats_Counter_Get _ _ H) rfl
  rotate_left 2
  · simp (disch := first | with_reducible rfl | assumption | omega | rfl | (simp only [go_sem]; first | done | omega)) only [go_sem, ↓reduceIte, reduceCtorEq, Nat.reduceEqDiff, Nat.reduceAdd, Nat.reduceSub, Nat.reduceMul, Nat.reduceDiv, Nat.reduceMod, Nat.reduceLeDiff, Nat.reduceLT, Nat.reduceBEq, Int.reduceEq, Int.reduceBEq, Int.reduceBNe, Int.reduceLT, Int.reduceLE, Int.reduceAdd, Int.reduceSub, Int.reduceNeg, Int.reduceToNat, Int.reducePow, Nat.reducePow, Int.reduceMul, Int.reduceDiv, ↓s_stats_Counter_Get, hf, hl]
    rfl
  · (repeat (first | exact Fr.refl _ | refine Fr.push ?_ _ | refine Fr.set ?_ _ _ (by intro h; first | omega | (simp only [go_sem] at h; omega))))
theorem q_gTotal (hf : H.f c = .cells [.map m, .int .i64 (tot : Int)] T.stats_Counter true) : CC F.stats_Counter_Total [.pointer (some ⟨c, 0, none⟩)] H = some (.int .i64 (tot : Int), H) := by
  apply pure_of _ (d_stats_Counter_Total _ H) rfl
  rotate_left 2
  · simp (disch := first | with_reducible rfl | assumption | omega | rfl | (simp only [go_sem]; first | done | omega)) only [go_sem, ↓reduceIte, reduceCtorEq, Nat.reduceEqDiff, Nat.reduceAdd, Nat.reduceSub, Nat.reduceMul, Nat.reduceDiv, Nat.reduceMod, Nat.reduceLeDiff, Nat.reduceLT, Nat.reduceBEq, Int.reduceEq, Int.reduceBEq, Int.reduceBNe, Int.reduceLT, Int.reduceLE, Int.reduceAdd, Int.reduceSub, Int.reduceNeg, Int.reduceToNat, Int.reducePow, Nat.reducePow, Int.reduceMul, Int.reduceDiv, ↓s_stats_Counter_Total, hf]
    rfl
  · (repeat (first | exact Fr.refl _ | refine Fr.push ?_ _ | refine Fr.set ?_ _ _ (by intro h; first | omega | (simp only [go_sem] at h; omega))))
theorem q_gAdd_bad (h : MapIs H c m E) (hf : H.f c = .cells [.map m, .int .i64 (tot : Int)] T.stats_Counter true) (s : ByteArray) (n : Int) (hb : nameB s = false ∨ n < 0 ∨ 4611686018427387904 < n) : CC F.stats_Counter_Add [.pointer (some ⟨c, 0, none⟩), .string s, .int .i64 n] H = some (.int .i64 2, H) := by
  obtain ⟨is, hl, _⟩ := look_any h s
  have e1 := q_named s H
  rw [named_name] at e1
  cases hn : nameB s with
  | false =>
    rw [hn] at e1
    apply pure_of _ (d_stats_Counter_Add _ _ _ H) rfl
    rotate_left 2
    · simp (disch := first | with_reducible rfl | assumption | omega | rfl | (simp only [go_sem]; first | done | omega)) only [go_sem, ↓reduceIte, reduceCtorEq, Nat.reduceEqDiff, Nat.reduceAdd, Nat.reduceSub, Nat.reduceMul, Nat.reduceDiv, Nat.reduceMod, Nat.reduceLeDiff, Nat.reduceLT, Nat.reduceBEq, Int.reduceEq, Int.reduceBEq, Int.reduceBNe, Int.reduceLT, Int.reduceLE, Int.reduceAdd, Int.reduceSub, Int.reduceNeg, Int.reduceToNat, Int.reducePow, Nat.reducePow, Int.reduceMul, Int.reduceDiv, ↓s_stats_Counter_Add, hf, hl, ↓enterK_eq e1, enterK_eq e1, Bool.not_false]
      rfl
    · (repeat (first | exact Fr.refl _ | refine Fr.push ?_ _ | refine Fr.set ?_ _ _ (by intro h; first | omega | (simp only [go_sem] at h; omega))))
  | true =>
    rw [hn] at e1
    by_cases h1 : n < 0
    · apply pure_of _ (d_stats_Counter_Add _ _ _ H) rfl
      rotate_left 2
      · simp (disch := first | with_reducible rfl | assumption | omega | rfl | (simp only [go_sem]; first | done | omega)) only [go_sem, ↓reduceIte, reduceCtorEq, Nat.reduceEqDiff, Nat.reduceAdd, Nat.reduceSub, Nat.reduceMul, Nat.reduceDiv, Nat.reduceMod, Nat.reduceLeDiff, Nat.reduceLT, Nat.reduceBEq, Int.reduceEq, Int.reduceBEq, Int.reduceBNe, Int.reduceLT, Int.reduceLE, Int.reduceAdd, Int.reduceSub, Int.reduceNeg, Int.reduceToNat, Int.reducePow, Nat.reducePow, Int.reduceMul, Int.reduceDiv, ↓s_stats_Counter_Add, hf, hl, ↓enterK_eq e1, enterK_eq e1, Bool.not_true, h1]
        rfl
      · (repeat (first | exact Fr.refl _ | refine Fr.push ?_ _ | refine Fr.set ?_ _ _ (by intro h; first | omega | (simp only [go_sem] at h; omega))))
    · have h2 : 4611686018427387904 < n := by
        rcases hb with hb | hb
        · rw [hn] at hb; cases hb
        · omega
      apply pure_of _ (d_stats_Counter_Add _ _ _ H) rfl
      rotate_left 2
      · simp (disch := first | with_reducible rfl | assumption | omega | rfl | (simp only [go_sem]; first | done | omega)) only [go_sem, ↓reduceIte, reduceCtorEq, Nat.reduceEqDiff, Nat.reduceAdd, Nat.reduceSub, Nat.reduceMul, Nat.reduceDiv, Nat.reduceMod, Nat.reduceLeDiff, Nat.reduceLT, Nat.reduceBEq, Int.reduceEq, Int.reduceBEq, Int.reduceBNe, Int.reduceLT, Int.reduceLE, Int.reduceAdd, Int.reduceSub, Int.reduceNeg, Int.reduceToNat, Int.reducePow, Nat.reducePow, Int.reduceMul, Int.reduceDiv, ↓s_stats_Counter_Add, hf, hl, ↓enterK_eq e1, enterK_eq e1, Bool.not_true, h1, h2]
        rfl
      · (repeat (first | exact Fr.refl _ | refine Fr.push ?_ _ | refine Fr.set ?_ _ _ (by intro h; first | omega | (simp only [go_sem] at h; omega))))
theorem q_gAdd_zero (h : MapIs H c m E) (hf : H.f c = .cells [.map m, .int .i64 (tot : Int)] T.stats_Counter true) (s : ByteArray) (hn : nameB s = true) : CC F.stats_Counter_Add [.pointer (some ⟨c, 0, none⟩), .string s, .int .i64 0] H = some (.int .i64 0, H) := by
  obtain ⟨is, hl, _⟩ := look_any h s
  have e1 := q_named s H
  rw [named_name, hn] at e1
  apply pure_of _ (d_stats_Counter_Add _ _ _ H) rfl
  rotate_left 2
  · simp (disch := first | with_reducible rfl | assumption | omega | rfl | (simp only [go_sem]; first | done | omega)) only [go_sem, ↓reduceIte, reduceCtorEq, Nat.reduceEqDiff, Nat.reduceAdd, Nat.reduceSub, Nat.reduceMul, Nat.reduceDiv, Nat.reduceMod, Nat.reduceLeDiff, Nat.reduceLT, Nat.reduceBEq, Int.reduceEq, Int.reduceBEq, Int.reduceBNe, Int.reduceLT, Int.reduceLE, Int.reduceAdd, Int.reduceSub, Int.reduceNeg, Int.reduceToNat, Int.reducePow, Nat.reducePow, Int.reduceMul, Int.reduceDiv, ↓s_stats_Counter_Add, hf, hl, ↓enterK_eq e1, enterK_eq e1, Bool.not_true]
    rfl
  · (repeat (first | exact Fr.refl _ | refine Fr.push ?_ _ | refine Fr.set ?_ _ _ (by intro h; first | omega | (simp only [go_sem] at h; omega))))
theorem q_gAdd_sum (h : MapIs H c m E) (hf : H.f c = .cells [.map m, .int .i64 (tot : Int)] T.stats_Counter true) (s : ByteArray) (n : Nat) (hn : nameB s = true) (h0 : 0 < n) (hn2 : n ≤ 4611686018427387904) (ht : tot ≤ 4611686018427387904) (hfu : 4611686018427387904 < tot + n) :
    CC F.stats_Counter_Add [.pointer (some ⟨c, 0, none⟩), .string s, .int .i64 (n : Int)] H = some (.int .i64 7, H) := by
  obtain ⟨is, hl, _⟩ := look_any h s
  have e1 := q_named s H
  rw [named_name, hn] at e1
  have a1 : ¬ (n : Int) < 0 := by omega
  have a2 : ¬ (4611686018427387904 : Int) < (n : Int) := by omega
  have a3 : ¬ (n : Int) = 0 := by omega
  have a4 : (4611686018427387904 : Int) - (tot : Int) < (n : Int) := by omega
  apply pure_of _ (d_stats_Counter_Add _ _ _ H) rfl
  rotate_left 2
  · simp (disch := first | with_reducible rfl | assumption | omega | rfl | (simp only [go_sem]; first | done | omega)) only [go_sem, ↓reduceIte, reduceCtorEq, Nat.reduceEqDiff, Nat.reduceAdd, Nat.reduceSub, Nat.reduceMul, Nat.reduceDiv, Nat.reduceMod, Nat.reduceLeDiff, Nat.reduceLT, Nat.reduceBEq, Int.reduceEq, Int.reduceBEq, Int.reduceBNe, Int.reduceLT, Int.reduceLE, Int.reduceAdd, Int.reduceSub, Int.reduceNeg, Int.reduceToNat, Int.reducePow, Nat.reducePow, Int.reduceMul, Int.reduceDiv, ↓s_stats_Counter_Add, hf, hl, ↓enterK_eq e1, enterK_eq e1, Bool.not_true, a1, a2, a3, a4]
    rfl
  · (repeat (first | exact Fr.refl _ | refine Fr.push ?_ _ | refine Fr.set ?_ _ _ (by intro h; first | omega | (simp only [go_sem] at h; omega))))
end

end Go.Proofs.Ytplblfcofplcmaa

/-
  Chapter 26: counters: copies, names.
  Conditions: none. By an AI agent.
-/
set_option maxRecDepth 10000
set_option linter.unusedSimpArgs false
set_option linter.unusedVariables false
namespace Go.Proofs.Ytplblfcofplcmaa
open Go Eng
attribute [local congr] bareK_congr' bothK_congr' quietK_congr'

def ESt : Enc ByteArray := ⟨1, fun s => [.string s], fun _ => rfl, by decide, fun _ => rfl⟩
theorem ESt_cells : ∀ l : List ByteArray, ESt.cells l = l.map .string
  | [] => rfl
  | s :: l => by
    have : ESt.cells (s :: l) = .string s :: ESt.cells l := rfl
    rw [this, ESt_cells l]
    rfl

section
variable {H : AHeap} {c : Nat} {m : Option Nat} {E : Ec} {tot : Nat}

theorem q_gCopy (h : MapIs H c m E) (hc : c < H.n) (hf : H.f c = .cells [.map m, .int .i64 (tot : Int)] T.stats_Counter true) :
    ∃ c' m' H', CC F.stats_Counter_Copy [.pointer (some ⟨c, 0, none⟩)] H = some (.pointer (some ⟨c', 0, none⟩), H') ∧ H'.f c' = .cells [.map m', .int .i64 (tot : Int)] T.stats_Counter true ∧ MapIs H' c' m' E ∧ H.n ≤ c' ∧ c' < H'.n ∧ (∀ mb, m' = some mb → H.n ≤ mb) ∧ Still H H' := by
  have hp : prims1 F.maps_Clone_int = some cloneP := by kernel_rfl
  cases m with
  | none =>
    have e1 : CC F.maps_Clone_int [.map none] H = some (.map none, H) := D_prim hp rfl
    obtain ⟨H1, hH1⟩ : ∃ H1, H.push (.cells [.map none, .int .i64 (tot : Int)] T.stats_Counter true) = H1 := ⟨_, rfl⟩
    have s1 : Still H H1 := by rw [← hH1]; exact (Fr.refl H).push _
    refine ⟨H.n, none, H1, (d_stats_Counter_Copy _ H (r := (.pointer (some ⟨H.n, 0, none⟩), H1)) ?_).trans (congrArg some (tidy_mem rfl)), by rw [← hH1]; exact push_f_eq rfl, h, Nat.le_refl _, by rw [← hH1]; exact Nat.lt_succ_self _, fun _ h => (by cases h), s1⟩
    simp (disch := first | with_reducible rfl | assumption | omega | rfl | (simp only [go_sem]; first | done | omega)) only [go_sem, ↓reduceIte, reduceCtorEq, Nat.reduceEqDiff, Nat.reduceAdd, Nat.reduceSub, Nat.reduceMul, Nat.reduceDiv, Nat.reduceMod, Nat.reduceLeDiff, Nat.reduceLT, Nat.reduceBEq, Int.reduceEq, Int.reduceBEq, Int.reduceBNe, Int.reduceLT, Int.reduceLE, Int.reduceAdd, Int.reduceSub, Int.reduceNeg, Int.reduceToNat, Int.reducePow, Nat.reducePow, Int.reduceMul, Int.reduceDiv, ↓s_stats_Counter_Copy, hf, ↓enterK_eq e1, enterK_eq e1, hH1]
  | some mb =>
    obtain ⟨h1, h2, h3⟩ := h
    obtain ⟨H1, hH1⟩ : ∃ H1, H.push (.map (entsOf E)) = H1 := ⟨_, rfl⟩
    have e1 : CC F.maps_Clone_int [.map (some mb)] H = some (.map (some H.n), H1) := D_prim hp (by unfold cloneP; simp only [h1, hH1])
    have s1 : Still H H1 := by rw [← hH1]; exact (Fr.refl H).push _
    have n1 : H1.n = H.n + 1 := by rw [← hH1]; rfl
    have f1 : H1.f c = .cells [.map (some mb), .int .i64 (tot : Int)] T.stats_Counter true := by rw [s1.f hc fun h => h]; exact hf
    have m1 : H1.f H.n = .map (entsOf E) := by rw [← hH1]; exact push_f_eq rfl
    have k1 : H.n ≤ c ∨ H1.ver c = H.ver c := .inr (s1.ver hc fun h => h)
    have k2 : H.n ≤ H1.n := by omega
    obtain ⟨H2, hH2⟩ : ∃ H2, H1.push (.cells [.map (some H.n), .int .i64 (tot : Int)] T.stats_Counter true) = H2 := ⟨_, rfl⟩
    have s2 : Still H1 H2 := by rw [← hH2]; exact (Fr.refl H1).push _
    have n2 : H2.n = H1.n + 1 := by rw [← hH2]; rfl
    have m2 : H2.f H.n = .map (entsOf E) := by rw [s2.f (by omega) fun h => h]; exact m1
    refine ⟨H1.n, some H.n, H2, (d_stats_Counter_Copy _ H (r := (.pointer (some ⟨H1.n, 0, none⟩), H2)) ?_).trans (congrArg some (tidy_mem rfl)), by rw [← hH2]; exact push_f_eq rfl, ⟨m2, by omega, by omega⟩, by omega, by omega, fun mb h => (by cases h; exact Nat.le_refl _), s1.then s2 fun c _ h => h⟩
    simp (disch := first | with_reducible rfl | assumption | omega | rfl | (simp only [go_sem]; first | done | omega)) only [go_sem, ↓reduceIte, reduceCtorEq, Nat.reduceEqDiff, Nat.reduceAdd, Nat.reduceSub, Nat.reduceMul, Nat.reduceDiv, Nat.reduceMod, Nat.reduceLeDiff, Nat.reduceLT, Nat.reduceBEq, Int.reduceEq, Int.reduceBEq, Int.reduceBNe, Int.reduceLT, Int.reduceLE, Int.reduceAdd, Int.reduceSub, Int.reduceNeg, Int.reduceToNat, Int.reducePow, Nat.reducePow, Int.reduceMul, Int.reduceDiv, ↓s_stats_Counter_Copy, hf, ↓enterK_eq e1, enterK_eq e1, f1, hH2]

theorem q_gNames {N : Ec} (h : MapIs H c m E) (hf : H.f c = .cells [.map m, .int .i64 (tot : Int)] T.stats_Counter true) (r : RelC E N) (hE : ∀ p ∈ E, p.1.size ≤ 1000) (hlen : E.length ≤ 1000000) :
    ∃ v H', CC F.stats_Counter_Names [.pointer (some ⟨c, 0, none⟩)] H = some (v, H') ∧ Rd ESt H' v (N.map (·.1)) ∧ (∀ b, blockOf v = some b → H.n ≤ b ∧ b < H'.n) ∧ Still H H' := by
  have hp : prims1 F.stats_Counter_Names = some namesP := by kernel_rfl
  have hlN := r.len
  cases m with
  | none =>
    obtain rfl : E = [] := h
    obtain rfl : N = [] := by cases N with | nil => rfl | cons _ _ => simp at hlN
    exact ⟨.slice none 0 0, H, D_prim hp (by unfold namesP; simp only [hf, List.getElem?_cons_zero]), .inl ⟨rfl, rfl⟩, fun b h => (by cases h), Fr.refl H⟩
  | some mb =>
    obtain ⟨h1, h2, h3⟩ := h
    have hk := strs_of hE
    have hl : (entsOf E).length ≤ 1000000 := by unfold entsOf; rw [List.length_map]; exact hlen
    by_cases he : E = []
    · subst he
      obtain rfl : N = [] := by cases N with | nil => rfl | cons _ _ => simp at hlN
      exact ⟨.slice none 0 0, H, D_prim hp (by unfold namesP; simp only [hf, List.getElem?_cons_zero, h1, hk]; rw [if_pos hl]; rfl), .inl ⟨rfl, rfl⟩, fun b h => (by cases h), Fr.refl H⟩
    · have hkn : ¬ (E.map fun p => p.1.data.toList).isEmpty = true := by cases E with | nil => exact absurd rfl he | cons _ _ => simp
      have e : namesP [.pointer (some ⟨c, 0, none⟩)] H = some (.slice (some ⟨H.n, 0, none⟩) (E.map fun p => p.1.data.toList).length (2 * (E.map fun p => p.1.data.toList).length + 1), H.push (.cells ((sortS (E.map fun p => p.1.data.toList)).map fun s => .string ⟨s.toArray⟩) 9 true)) := by
        unfold namesP
        simp only [hf, List.getElem?_cons_zero, h1, hk]
        rw [if_pos hl, if_neg hkn]
      have hcells : (sortS (E.map fun p => p.1.data.toList)).map (fun s => Value.string ⟨s.toArray⟩) = ESt.cells (N.map (·.1)) := by
        rw [r.names, ESt_cells, List.map_map, List.map_map]
        apply List.map_congr_left
        intro p _
        simp
      rw [hcells] at e
      obtain ⟨H1, hH1⟩ : ∃ H1, H.push (.cells (ESt.cells (N.map (·.1))) 9 true) = H1 := ⟨_, rfl⟩
      rw [hH1] at e
      have s1 : Still H H1 := by rw [← hH1]; exact (Fr.refl H).push _
      have n1 : H1.n = H.n + 1 := by rw [← hH1]; rfl
      have hne : N.map (·.1) ≠ [] := by
        intro hN
        have : N.length = 0 := by have := congrArg List.length hN; simpa using this
        exact he (List.length_eq_zero_iff.1 (by omega))
      refine ⟨_, H1, D_prim hp e, .inr (.inr ⟨H.n, 0, _, by rw [List.length_map, List.length_map, hlN], hne, (by rw [n1]; exact Nat.lt_succ_self _), ?_⟩), fun b hb => (by cases hb; exact ⟨Nat.le_refl _, by rw [n1]; exact Nat.lt_succ_self _⟩), s1⟩
      rw [← hH1, push_f_eq rfl, ESt_cells, cutB_c (by simp [ESt])]
      rw [List.drop_zero, List.take_of_length_le (by simp [ESt])]
end

end Go.Proofs.Ytplblfcofplcmaa

/-
  The seat's functions as terms over the engine's combinators (a program of ours printed it).
  Conditions: none. By an AI agent.
-/
set_option linter.unusedVariables false
namespace Go.Proofs.Ytplblfcofplcmaa
open Go Eng

/-! ticketline.ticketlinelaw26.StatsCounts -/

noncomputable def s_law_StatsCounts (mg : GT) (mc : CT) (ms : ST) (P : Program) (C : CallF) (L0 : Value → Value → Value → Value → AHeap → K → Res) (L1 : Value → Value → Value → Value → Value → Value → Value → AHeap → K → Res) (a0 : Value) (H : AHeap) (K0 : K) : Res :=
bareK (lenS a0) H fun t10 h1 =>
bareK (xbin P .gtr T.int (.tmp 10) (.const (.int .i64 40)) t10 (.int .i64 40)) h1 fun t11 h2 =>
mc t11 (fun k1 => enterK C F.law_known [] h2 fun t12 h3 =>
k1 .ret [(2, t12)] h3) (fun k1 =>
k1 .normal [(0, a0)] h2) (seqK (fun tT h4 =>
bareK (bldS #[(.map none), (.int .i64 0)] [(0, 1), (1, 1)] []) h4 fun t13 h5 =>
bothK (newv T.stats_Counter t13 h5) fun t14 h6 =>
bareK (bldS #[(.slice none 0 0)] [(0, 1)] []) h6 fun t15 h7 =>
bothK (newv T.ref26_Counter t15 h7) fun t16 h8 =>
ms (fun k2 =>
L0 (get tT 0) t14 t16 (.int .i64 0) h8 (blkK [] 0 k2)) (seqK (fun tT_1 h9 =>
enterK C F.law_known [] h9 fun t133 h10 =>
K0 .ret [(2, t133)] h10) K0)) K0)

noncomputable def s_law_StatsCounts_b0 (mg : GT) (mc : CT) (ms : ST) (P : Program) (C : CallF) (L0 : Value → Value → Value → Value → AHeap → K → Res) (L1 : Value → Value → Value → Value → Value → Value → Value → AHeap → K → Res) (v0 : Value) (v3 : Value) (v4 : Value) (v5 : Value) (H : AHeap) (k : K) : Res :=
bareK (lenS v0) H fun t19 h9 =>
bareK (xbin P .lss T.int (.tmp 17) (.tmp 19) v5 t19) h9 fun t20 h10 =>
mc t20 (fun k3 => k3 .normal [(0, v0), (3, v3), (4, v4), (5, v5)] h10) (fun k3 =>
k3 (.exit 0) [(20, t20), (19, t19), (18, v0), (17, v5), (0, v0), (3, v3), (4, v4), (5, v5)] h10) (seqK (fun tT h11 =>
ms (fun k4 =>
bareK (ixS 2 (get tT 0) (get tT 5)) h11 fun t25 h12 =>
bareK (fad 0 t25) h12 fun t26 h13 =>
bareK (ld1 h13 t26) h13 fun t27 h14 =>
bareK (lenT t27) h14 fun t28 h15 =>
bareK (xbin P .gtr T.int (.tmp 28) (.const (.int .i64 60)) t28 (.int .i64 60)) h15 fun t29 h16 =>
mc t29 (fun k5 => enterK C F.law_known [] h16 fun t30 h17 =>
k5 .ret [(2, t30)] h17) (fun k5 =>
k5 .normal [(0, (get tT 0)), (3, (get tT 3)), (4, (get tT 4)), (5, (get tT 5))] h16) (seqK (fun tT_1 h18 =>
enterK C F.stats_Counter_Copy [(get tT_1 3)] h18 fun t32 h19 =>
bareK (xbin P .eql T.p_stats_Counter (.tmp 33) (.const (.pointer none)) t32 (.pointer none)) h19 fun t34 h20 =>
mg t34 false (fun o6 => o6 (get tT_1 3) h20) h20 fun t36 h21 =>
mg t34 false (fun o7 => o7 (get tT_1 0) h21) h21 fun t37 h22 =>
mg t34 false (fun o8 => o8 (get tT_1 5) h22) h22 fun t38 h23 =>
mg t34 false (fun o9 => bareK (ixS 2 t37 t38) h23 o9) h23 fun t39 h24 =>
mg t34 false (fun o10 => bareK (fad 0 t39) h24 o10) h24 fun t40 h25 =>
mg t34 false (fun o11 => bareK (ld1 h25 t40) h25 o11) h25 fun t41 h26 =>
mg t34 false (fun o12 => o12 (get tT_1 0) h26) h26 fun t42 h27 =>
mg t34 false (fun o13 => o13 (get tT_1 5) h27) h27 fun t43 h28 =>
mg t34 false (fun o14 => bareK (ixS 2 t42 t43) h28 o14) h28 fun t44 h29 =>
mg t34 false (fun o15 => bareK (fad 1 t44) h29 o15) h29 fun t45 h30 =>
mg t34 false (fun o16 => bareK (ld1 h30 t45) h30 o16) h30 fun t46 h31 =>
mg t34 false (fun o17 => enterK C F.stats_Counter_Add [t36, t41, t46] h31 o17) h31 fun t47 h32 =>
mg t34 false (fun o18 => o18 (get tT_1 4) h32) h32 fun t48 h33 =>
mg t34 false (fun o19 => o19 (get tT_1 0) h33) h33 fun t49 h34 =>
mg t34 false (fun o20 => o20 (get tT_1 5) h34) h34 fun t50 h35 =>
mg t34 false (fun o21 => bareK (ixS 2 t49 t50) h35 o21) h35 fun t51 h36 =>
mg t34 false (fun o22 => bareK (fad 0 t51) h36 o22) h36 fun t52 h37 =>
mg t34 false (fun o23 => bareK (ld1 h37 t52) h37 o23) h37 fun t53 h38 =>
mg t34 false (fun o24 => o24 (get tT_1 0) h38) h38 fun t54 h39 =>
mg t34 false (fun o25 => o25 (get tT_1 5) h39) h39 fun t55 h40 =>
mg t34 false (fun o26 => bareK (ixS 2 t54 t55) h40 o26) h40 fun t56 h41 =>
mg t34 false (fun o27 => bareK (fad 1 t56) h41 o27) h41 fun t57 h42 =>
mg t34 false (fun o28 => bareK (ld1 h42 t57) h42 o28) h42 fun t58 h43 =>
mg t34 false (fun o29 => enterK C F.ref26_Counter_Add [t48, t53, t58] h43 o29) h43 fun t59 h44 =>
mg t34 false (fun o30 => bareK (xbin P .neq T.api_Errno (.tmp 47) (.tmp 59) t47 t59) h44 o30) h44 fun t60 h45 =>
pickK t34 (.bool true) t60 fun t61 =>
mg t61 false (fun o31 => o31 (get tT_1 3) h45) h45 fun t63 h46 =>
mg t61 false (fun o32 => enterK C F.stats_Counter_Total [t63] h46 o32) h46 fun t64 h47 =>
mg t61 false (fun o33 => o33 (get tT_1 4) h47) h47 fun t65 h48 =>
mg t61 false (fun o34 => enterK C F.ref26_Counter_Total [t65] h48 o34) h48 fun t66 h49 =>
mg t61 false (fun o35 => bareK (xbin P .neq T.int (.tmp 64) (.tmp 66) t64 t66) h49 o35) h49 fun t67 h50 =>
pickK t61 (.bool true) t67 fun t68 =>
checkK (okV (goesV t34 false) none h31 h32 h32 h33 && (okV (goesV t34 false) none h31 h32 h33 h34 && (okV (goesV t34 false) none h31 h32 h34 h35 && (okV (goesV t34 false) none h31 h32 h35 h36 && (okV (goesV t34 false) none h31 h32 h36 h37 && (okV (goesV t34 false) (blockOf t52) h31 h32 h37 h38 && (okV (goesV t34 false) none h31 h32 h38 h39 && (okV (goesV t34 false) none h31 h32 h39 h40 && (okV (goesV t34 false) none h31 h32 h40 h41 && (okV (goesV t34 false) none h31 h32 h41 h42 && (okV (goesV t34 false) (blockOf t57) h31 h32 h42 h43 && (okV (goesV t61 false) none h46 h47 h47 h48 && true)))))))))))) <|
mc t68 (fun k36 => k36 .ret [(2, (.bool false))] h50) (fun k36 =>
k36 .normal [(0, (get tT_1 0)), (3, (get tT_1 3)), (4, (get tT_1 4)), (5, (get tT_1 5)), (6, t32)] h50) (seqK (fun tT_2 h51 =>
enterK C F.stats_Counter_Names [(get tT_2 3)] h51 fun t70 h52 =>
bareK (lenS t70) h52 fun t72 h53 =>
bareK (xnilCheck (get tT_2 4)) h53 fun t74 h54 =>
bareK (fad 0 t74) h54 fun t75 h55 =>
bareK (ld1 h55 t75) h55 fun t76 h56 =>
bareK (lenS t76) h56 fun t77 h57 =>
bareK (xbin P .neq T.int (.tmp 72) (.tmp 77) t72 t77) h57 fun t78 h58 =>
mc t78 (fun k37 => k37 .ret [(2, (.bool false))] h58) (fun k37 =>
k37 .normal [(0, (get tT_2 0)), (3, (get tT_2 3)), (4, (get tT_2 4)), (5, (get tT_2 5)), (6, (get tT_2 6)), (7, t70)] h58) (seqK (fun tT_3 h59 =>
ms (fun k38 =>
L1 (get tT_3 0) (get tT_3 3) (get tT_3 4) (get tT_3 5) (get tT_3 6) (get tT_3 7) (.int .i64 0) h59 (blkK [0, 3, 4, 5, 6] 2 k38)) (seqK (fun tT_4 h60 =>
enterK C F.stats_Counter_Add [(get tT_4 6), (.string (mk [111, 116, 104, 101, 114])), (.int .i64 1)] h60 fun t116 h61 =>
enterK C F.stats_Counter_Total [(get tT_4 3)] h61 fun t118 h62 =>
enterK C F.ref26_Counter_Total [(get tT_4 4)] h62 fun t120 h63 =>
bareK (xbin P .neq T.int (.tmp 118) (.tmp 120) t118 t120) h63 fun t121 h64 =>
mg t121 false (fun o39 => o39 (get tT_4 3) h64) h64 fun t123 h65 =>
mg t121 false (fun o40 => o40 (get tT_4 0) h65) h65 fun t124 h66 =>
mg t121 false (fun o41 => o41 (get tT_4 5) h66) h66 fun t125 h67 =>
mg t121 false (fun o42 => bareK (ixS 2 t124 t125) h67 o42) h67 fun t126 h68 =>
mg t121 false (fun o43 => bareK (fad 0 t126) h68 o43) h68 fun t127 h69 =>
mg t121 false (fun o44 => bareK (ld1 h69 t127) h69 o44) h69 fun t128 h70 =>
mg t121 false (fun o45 => bareK (xbin P .add T.string (.tmp 128) (.const (.string (mk [32]))) t128 (.string (mk [32]))) h70 o45) h70 fun t129 h71 =>
mg t121 false (fun o46 => enterK C F.stats_Counter_Get [t123, t129] h71 o46) h71 fun t130 h72 =>
mg t121 false (fun o47 => bareK (xbin P .neq T.int (.tmp 130) (.const (.int .i64 0)) t130 (.int .i64 0)) h72 o47) h72 fun t131 h73 =>
pickK t121 (.bool true) t131 fun t132 =>
mc t132 (fun k48 => k48 .ret [(2, (.bool false))] h73) (fun k48 =>
k48 .normal [(0, (get tT_4 0)), (3, (get tT_4 3)), (4, (get tT_4 4)), (5, (get tT_4 5))] h73) (blkK [0, 3, 4, 5] 1 k4)) (blkK [0, 3, 4, 5] 1 k4))) (blkK [0, 3, 4, 5] 1 k4))) (blkK [0, 3, 4, 5] 1 k4))) (blkK [0, 3, 4, 5] 1 k4))) (seqK (fun tT_5 h74 =>
bareK (xbin P .add T.int (.tmp 21) (.const (.int .i64 1)) (get tT_5 5) (.int .i64 1)) h74 fun t22 h75 =>
k .normal [(0, (get tT_5 0)), (3, (get tT_5 3)), (4, (get tT_5 4)), (5, t22)] h75) (afterK [0, 3, 4, 5] k))) (afterK [0, 3, 4, 5] k))

noncomputable def s_law_StatsCounts_b1 (mg : GT) (mc : CT) (ms : ST) (P : Program) (C : CallF) (L0 : Value → Value → Value → Value → AHeap → K → Res) (L1 : Value → Value → Value → Value → Value → Value → Value → AHeap → K → Res) (v0 : Value) (v3 : Value) (v4 : Value) (v5 : Value) (v6 : Value) (v7 : Value) (v8 : Value) (H : AHeap) (k : K) : Res :=
bareK (lenS v7) H fun t81 h60 =>
bareK (xbin P .lss T.int (.tmp 79) (.tmp 81) v8 t81) h60 fun t82 h61 =>
mc t82 (fun k39 => k39 .normal [(0, v0), (3, v3), (4, v4), (5, v5), (6, v6), (7, v7), (8, v8)] h61) (fun k39 =>
k39 (.exit 2) [(82, t82), (81, t81), (80, v7), (79, v8), (0, v0), (3, v3), (4, v4), (5, v5), (6, v6), (7, v7), (8, v8)] h61) (seqK (fun tT h62 =>
ms (fun k40 =>
bareK (ixS 1 (get tT 7) (get tT 8)) h62 fun t87 h63 =>
bareK (ld1 h63 t87) h63 fun t88 h64 =>
bareK (xnilCheck (get tT 4)) h64 fun t90 h65 =>
bareK (fad 0 t90) h65 fun t91 h66 =>
bareK (ld1 h66 t91) h66 fun t92 h67 =>
bareK (ixS 2 t92 (get tT 8)) h67 fun t94 h68 =>
bareK (fad 0 t94) h68 fun t95 h69 =>
bareK (ld1 h69 t95) h69 fun t96 h70 =>
bareK (xbin P .neq T.string (.tmp 88) (.tmp 96) t88 t96) h70 fun t97 h71 =>
mg t97 false (fun o41 => o41 (get tT 3) h71) h71 fun t99 h72 =>
mg t97 false (fun o42 => o42 (get tT 7) h72) h72 fun t100 h73 =>
mg t97 false (fun o43 => o43 (get tT 8) h73) h73 fun t101 h74 =>
mg t97 false (fun o44 => bareK (ixS 1 t100 t101) h74 o44) h74 fun t102 h75 =>
mg t97 false (fun o45 => bareK (ld1 h75 t102) h75 o45) h75 fun t103 h76 =>
mg t97 false (fun o46 => enterK C F.stats_Counter_Get [t99, t103] h76 o46) h76 fun t104 h77 =>
mg t97 false (fun o47 => o47 (get tT 4) h77) h77 fun t105 h78 =>
mg t97 false (fun o48 => bareK (xnilCheck t105) h78 o48) h78 fun t106 h79 =>
mg t97 false (fun o49 => bareK (fad 0 t106) h79 o49) h79 fun t107 h80 =>
mg t97 false (fun o50 => bareK (ld1 h80 t107) h80 o50) h80 fun t108 h81 =>
mg t97 false (fun o51 => o51 (get tT 8) h81) h81 fun t109 h82 =>
mg t97 false (fun o52 => bareK (ixS 2 t108 t109) h82 o52) h82 fun t110 h83 =>
mg t97 false (fun o53 => bareK (fad 1 t110) h83 o53) h83 fun t111 h84 =>
mg t97 false (fun o54 => bareK (ld1 h84 t111) h84 o54) h84 fun t112 h85 =>
mg t97 false (fun o55 => bareK (xbin P .neq T.int (.tmp 104) (.tmp 112) t104 t112) h85 o55) h85 fun t113 h86 =>
pickK t97 (.bool true) t113 fun t114 =>
checkK (okV (goesV t97 false) none h76 h77 h77 h78 && (okV (goesV t97 false) none h76 h77 h78 h79 && (okV (goesV t97 false) none h76 h77 h79 h80 && (okV (goesV t97 false) (blockOf t107) h76 h77 h80 h81 && (okV (goesV t97 false) none h76 h77 h81 h82 && (okV (goesV t97 false) none h76 h77 h82 h83 && (okV (goesV t97 false) none h76 h77 h83 h84 && (okV (goesV t97 false) (blockOf t111) h76 h77 h84 h85 && true)))))))) <|
mc t114 (fun k56 => k56 .ret [(2, (.bool false))] h86) (fun k56 =>
k56 .normal [(0, (get tT 0)), (3, (get tT 3)), (4, (get tT 4)), (5, (get tT 5)), (6, (get tT 6)), (7, (get tT 7)), (8, (get tT 8))] h86) (blkK [0, 3, 4, 5, 6, 7, 8] 3 k40)) (seqK (fun tT_1 h87 =>
bareK (xbin P .add T.int (.tmp 83) (.const (.int .i64 1)) (get tT_1 8) (.int .i64 1)) h87 fun t84 h88 =>
k .normal [(0, (get tT_1 0)), (3, (get tT_1 3)), (4, (get tT_1 4)), (5, (get tT_1 5)), (6, (get tT_1 6)), (7, (get tT_1 7)), (8, t84)] h88) (afterK [0, 3, 4, 5, 6, 7, 8] k))) (afterK [0, 3, 4, 5, 6, 7, 8] k))

theorem s_law_StatsCounts_eq (M : CombL) (C : CallF) (LP : LoopH) (a0 : Value) (H : AHeap) : dBodyL M Try.prog hints C LP F.law_StatsCounts [a0] H = s_law_StatsCounts M.b.g M.c M.s Try.prog C (fun v0 v3 v4 v5 H k => loopL M Try.prog hints C LP F.law_StatsCounts 0 [(0, v0), (3, v3), (4, v4), (5, v5)] H k) (fun v0 v3 v4 v5 v6 v7 v8 H k => loopL M Try.prog hints C LP F.law_StatsCounts 1 [(0, v0), (3, v3), (4, v4), (5, v5), (6, v6), (7, v7), (8, v8)] H k) a0 H (endK Try.prog [.tmp 2]) := by kernel_rfl

theorem s_law_StatsCounts_b0_eq (M : CombL) (C : CallF) (LP : LoopH) (v0 : Value) (v3 : Value) (v4 : Value) (v5 : Value) (H : AHeap) (k : K) : bodyL M Try.prog hints C LP F.law_StatsCounts 0 [(0, v0), (3, v3), (4, v4), (5, v5)] H (afterK [0, 3, 4, 5] k) = s_law_StatsCounts_b0 M.b.g M.c M.s Try.prog C (fun v0 v3 v4 v5 H k => loopL M Try.prog hints C LP F.law_StatsCounts 0 [(0, v0), (3, v3), (4, v4), (5, v5)] H k) (fun v0 v3 v4 v5 v6 v7 v8 H k => loopL M Try.prog hints C LP F.law_StatsCounts 1 [(0, v0), (3, v3), (4, v4), (5, v5), (6, v6), (7, v7), (8, v8)] H k) v0 v3 v4 v5 H k := by kernel_rfl

theorem s_law_StatsCounts_b1_eq (M : CombL) (C : CallF) (LP : LoopH) (v0 : Value) (v3 : Value) (v4 : Value) (v5 : Value) (v6 : Value) (v7 : Value) (v8 : Value) (H : AHeap) (k : K) : bodyL M Try.prog hints C LP F.law_StatsCounts 1 [(0, v0), (3, v3), (4, v4), (5, v5), (6, v6), (7, v7), (8, v8)] H (afterK [0, 3, 4, 5, 6, 7, 8] k) = s_law_StatsCounts_b1 M.b.g M.c M.s Try.prog C (fun v0 v3 v4 v5 H k => loopL M Try.prog hints C LP F.law_StatsCounts 0 [(0, v0), (3, v3), (4, v4), (5, v5)] H k) (fun v0 v3 v4 v5 v6 v7 v8 H k => loopL M Try.prog hints C LP F.law_StatsCounts 1 [(0, v0), (3, v3), (4, v4), (5, v5), (6, v6), (7, v7), (8, v8)] H k) v0 v3 v4 v5 v6 v7 v8 H k := by kernel_rfl

end Go.Proofs.Ytplblfcofplcmaa

/-
  The equations of the seat's functions over calls in the limit (a program of ours printed it).
  Conditions: none. By an AI agent.
-/
set_option linter.unusedVariables false
namespace Go.Proofs.Ytplblfcofplcmaa
open Go Eng

theorem u_ref26_Counter : Try.prog.underlying T.ref26_Counter = Try.prog.underlying 62 := rfl

noncomputable def l_law_StatsCounts_0 (v0 : Value) (v3 : Value) (v4 : Value) (v5 : Value) (H : AHeap) (k : K) : Res := loopL stdL Try.prog hints CC limLP F.law_StatsCounts 0 [(0, v0), (3, v3), (4, v4), (5, v5)] H k
noncomputable def l_law_StatsCounts_1 (v0 : Value) (v3 : Value) (v4 : Value) (v5 : Value) (v6 : Value) (v7 : Value) (v8 : Value) (H : AHeap) (k : K) : Res := loopL stdL Try.prog hints CC limLP F.law_StatsCounts 1 [(0, v0), (3, v3), (4, v4), (5, v5), (6, v6), (7, v7), (8, v8)] H k
theorem r_law_StatsCounts_0 (v0 : Value) (v3 : Value) (v4 : Value) (v5 : Value) (H : AHeap) (k : K) : l_law_StatsCounts_0 v0 v3 v4 v5 H k = s_law_StatsCounts_b0 guardK condL shareL Try.prog CC l_law_StatsCounts_0 l_law_StatsCounts_1 v0 v3 v4 v5 H (seqK (fun T H => l_law_StatsCounts_0 (get T 0) (get T 3) (get T 4) (get T 5) H k) k) := ((loopL_next (by kernel_rfl) rfl H k).trans (s_law_StatsCounts_b0_eq stdL CC limLP v0 v3 v4 v5 H _)).trans (by kernel_rfl)
theorem r_law_StatsCounts_1 (v0 : Value) (v3 : Value) (v4 : Value) (v5 : Value) (v6 : Value) (v7 : Value) (v8 : Value) (H : AHeap) (k : K) : l_law_StatsCounts_1 v0 v3 v4 v5 v6 v7 v8 H k = s_law_StatsCounts_b1 guardK condL shareL Try.prog CC l_law_StatsCounts_0 l_law_StatsCounts_1 v0 v3 v4 v5 v6 v7 v8 H (seqK (fun T H => l_law_StatsCounts_1 (get T 0) (get T 3) (get T 4) (get T 5) (get T 6) (get T 7) (get T 8) H k) k) := ((loopL_next (by kernel_rfl) rfl H k).trans (s_law_StatsCounts_b1_eq stdL CC limLP v0 v3 v4 v5 v6 v7 v8 H _)).trans (by kernel_rfl)
theorem d_law_StatsCounts (a0 : Value) (H : AHeap) {r : Value × AHeap} (h : s_law_StatsCounts guardK condL shareL Try.prog CC l_law_StatsCounts_0 l_law_StatsCounts_1 a0 H (endK Try.prog [.tmp 2]) = some r) : CC F.law_StatsCounts [a0] H = some (tidy H r) := D_body (by kernel_rfl) ((s_law_StatsCounts_eq stdL CC limLP a0 H).trans (Eq.trans (show s_law_StatsCounts stdL.b.g stdL.c stdL.s Try.prog CC (fun v0 v3 v4 v5 H k => loopL stdL Try.prog hints CC limLP F.law_StatsCounts 0 [(0, v0), (3, v3), (4, v4), (5, v5)] H k) (fun v0 v3 v4 v5 v6 v7 v8 H k => loopL stdL Try.prog hints CC limLP F.law_StatsCounts 1 [(0, v0), (3, v3), (4, v4), (5, v5), (6, v6), (7, v7), (8, v8)] H k) a0 H (endK Try.prog [.tmp 2]) = s_law_StatsCounts guardK condL shareL Try.prog CC l_law_StatsCounts_0 l_law_StatsCounts_1 a0 H (endK Try.prog [.tmp 2]) by kernel_rfl) h))

end Go.Proofs.Ytplblfcofplcmaa

/-
  Chapter 26: counters: both Adds, in all their cases; the names and counts of both, side by side.
  Conditions: none. By an AI agent.
-/
set_option maxRecDepth 10000
set_option linter.unusedSimpArgs false
set_option linter.unusedVariables false
namespace Go.Proofs.Ytplblfcofplcmaa
open Go Eng
attribute [local congr] bareK_congr' bothK_congr' quietK_congr'

def addG (E : Ec) (tot : Nat) (s : ByteArray) (n : Int) : Int × Ec × Nat :=
  if nameB s = false ∨ n < 0 ∨ 4611686018427387904 < n then (2, E, tot)
  else if n = 0 then (0, E, tot)
  else if 4611686018427387904 < tot + n.toNat then (7, E, tot)
  else (0, putE E s ((lkp E s).getD 0 + n.toNat), tot + n.toNat)
def addR (N : Ec) (s : ByteArray) (n : Int) : Int × Ec :=
  if nameB s = false ∨ n < 0 ∨ 4611686018427387904 < n then (2, N)
  else if n = 0 then (0, N)
  else if 4611686018427387904 < totN N + n.toNat then (7, N)
  else (0, insN N s ((lkp N s).getD 0 + n.toNat))

theorem lkp_tot : ∀ (N : Ec) (s : ByteArray), (lkp N s).getD 0 ≤ totN N
  | [], _ => Nat.zero_le _
  | p :: N, s => by
    have ih := lkp_tot N s
    rw [lkp]
    have e : totN (p :: N) = p.2 + totN N := by simp [totN]
    rw [e]
    split
    · simp
    · omega
theorem ins_len : ∀ (N : Ec) (s : ByteArray) (a : Nat), (insN N s a).length ≤ N.length + 1
  | [], _, _ => Nat.le_refl _
  | p :: N, s, a => by
    rw [insN]
    split
    · have := ins_len N s a
      simp only [List.length_cons]
      omega
    · split
      · simp
      · simp

theorem addGR {E N : Ec} {tot : Nat} (r : RelC E N) (ht : totN N = tot) (hm : tot ≤ 4611686018427387904) (hnm : ∀ j a, lkp E j = some a → nameB j = true) (s : ByteArray) (n : Int) :
    (addG E tot s n).1 = (addR N s n).1 ∧ RelC (addG E tot s n).2.1 (addR N s n).2 ∧ totN (addR N s n).2 = (addG E tot s n).2.2 ∧ (addG E tot s n).2.2 ≤ 4611686018427387904 ∧ (addR N s n).2.length ≤ N.length + 1 ∧
      ∀ j a, lkp (addG E tot s n).2.1 j = some a → nameB j = true := by
  subst ht
  unfold addG addR
  by_cases h1 : nameB s = false ∨ n < 0 ∨ 4611686018427387904 < n
  · rw [if_pos h1, if_pos h1]
    exact ⟨rfl, r, rfl, hm, Nat.le_succ _, hnm⟩
  rw [if_neg h1, if_neg h1]
  by_cases h2 : n = 0
  · rw [if_pos h2, if_pos h2]
    exact ⟨rfl, r, rfl, hm, Nat.le_succ _, hnm⟩
  rw [if_neg h2, if_neg h2]
  by_cases h3 : 4611686018427387904 < totN N + n.toNat
  · rw [if_pos h3, if_pos h3]
    exact ⟨rfl, r, rfl, hm, Nat.le_succ _, hnm⟩
  rw [if_neg h3, if_neg h3, r.lk]
  refine ⟨rfl, r.put _ _, tot_ins s _ r.srt, by simp only; omega, ins_len _ _ _, fun j a hj => ?_⟩
  simp only at hj
  rw [lkp_put] at hj
  by_cases hs : s = j
  · subst hs
    cases hb : nameB s with
    | true => rfl
    | false => exact absurd (.inl hb) h1
  · rw [if_neg hs] at hj
    exact hnm j a hj

section
variable {H : AHeap} {c : Nat} {m : Option Nat} {E : Ec} {tot : Nat}
theorem q_gAdd (h : MapIs H c m E) (hf : H.f c = .cells [.map m, .int .i64 (tot : Int)] T.stats_Counter true) (ok : ∀ b, H.ver b < H.clk) (hc : c < H.n) (hm0 : m = none → tot = 0) (hl : E.length < 1000) (ht : tot ≤ 4611686018427387904) (s : ByteArray) (hold : (lkp E s).getD 0 ≤ tot) (n : Int) :
    ∃ m' H', CC F.stats_Counter_Add [.pointer (some ⟨c, 0, none⟩), .string s, .int .i64 n] H = some (.int .i64 (addG E tot s n).1, H') ∧ H'.f c = .cells [.map m', .int .i64 ((addG E tot s n).2.2 : Int)] T.stats_Counter true ∧ MapIs H' c m' (addG E tot s n).2.1 ∧
      (m' = none → (addG E tot s n).2.2 = 0) ∧ Fr (fun b => b = c ∨ m = some b) H H' ∧ (∀ mb, m' = some mb → m = some mb ∨ (H.n ≤ mb ∧ mb < H'.n)) := by
  unfold addG
  by_cases h1 : nameB s = false ∨ n < 0 ∨ 4611686018427387904 < n
  · rw [if_pos h1]
    exact ⟨m, H, q_gAdd_bad h hf s n h1, hf, h, hm0, Fr.refl H, fun mb h => .inl h⟩
  rw [if_neg h1]
  have hn : nameB s = true := by
    cases hb : nameB s with
    | true => rfl
    | false => exact absurd (.inl hb) h1
  by_cases h2 : n = 0
  · subst h2
    rw [if_pos rfl]
    exact ⟨m, H, q_gAdd_zero h hf s hn, hf, h, hm0, Fr.refl H, fun mb h => .inl h⟩
  rw [if_neg h2]
  obtain ⟨k, rfl⟩ : ∃ k : Nat, n = (k : Int) := ⟨n.toNat, by omega⟩
  rw [Int.toNat_natCast]
  by_cases h3 : 4611686018427387904 < tot + k
  · rw [if_pos h3]
    exact ⟨m, H, q_gAdd_sum h hf s k hn (by omega) (by omega) ht h3, hf, h, hm0, Fr.refl H, fun mb h => .inl h⟩
  rw [if_neg h3]
  cases m with
  | none =>
    obtain rfl : E = [] := h
    obtain rfl := hm0 rfl
    obtain ⟨H', e, ct, fr⟩ := q_cAdd0F s k (by rw [named_name]; exact hn) (by omega) (by omega) ok hc hf
    refine ⟨some H.n, H', e, by rw [Nat.zero_add]; exact ct.f, ⟨?_, ct.mn, fun h => ct.ne h.symm⟩, fun h => (by cases h), fr.mono fun b _ h => .inl h, fun mb h => (by cases h; exact .inr ⟨Nat.le_refl _, ct.mn⟩)⟩
    have : putE ([] : Ec) s ((lkp ([] : Ec) s).getD 0 + k) = [(s, k)] := by simp [putE, has, lkp]
    rw [this]
    exact ct.m
  | some mb =>
    obtain ⟨g1, g2, g3⟩ := h
    have hct : Cnt H c mb E tot := ⟨ok, hf, g1, hc, g2, fun h => g3 h.symm⟩
    have hold' : (lkp E s = none ∧ (lkp E s).getD 0 = 0 ∧ E.length ≠ 1000) ∨ lkp E s = some ((lkp E s).getD 0) := by
      cases hk : lkp E s with
      | none => exact .inl ⟨rfl, rfl, by omega⟩
      | some a => exact .inr rfl
    obtain ⟨H', e, ct, fr⟩ := q_cAddF s k ((lkp E s).getD 0) (by rw [named_name]; exact hn) (by omega) hct (by omega) hold' (by omega)
    exact ⟨some mb, H', e, ct.f, ⟨ct.m, ct.mn, fun h => ct.ne h.symm⟩, fun h => (by cases h), fr.mono fun b _ h => h.imp id fun h => (by rw [h]), fun mb' h => (by cases h; exact .inl rfl)⟩
end

section
variable {N : Ec} {w : Value} {d : Nat} {H : AHeap}
theorem q_rAddA (s : ByteArray) (hl : (bl s).length ≤ 4611686018427387904) (hf : H.f d = .cells [w] T.ref26_Counter true) (hd : d < H.n) (ok : ∀ b, H.ver b < H.clk) (hr : Rd ENa H w N) (hlen : N.length < 1000) (ht : totN N ≤ 4611686018427387904) (hs : Srt N) (n : Int) :
    ∃ w' H', CC F.ref26_Counter_Add [.pointer (some ⟨d, 0, none⟩), .string s, .int .i64 n] H = some (.int .i64 (addR N s n).1, H') ∧ H'.f d = .cells [w'] T.ref26_Counter true ∧ Rd ENa H' w' (addR N s n).2 ∧ (∀ b, blockOf w' = some b → blockOf w = some b ∨ (H.n ≤ b ∧ b < H'.n)) ∧ Fr (fun b => b = d) H H' := by
  unfold addR
  by_cases h1 : nameB s = false ∨ n < 0 ∨ 4611686018427387904 < n
  · rw [if_pos h1]
    exact ⟨w, H, q_rcAdd_bad s n _ hl h1, hf, hr, fun b h => .inl h, Fr.refl H⟩
  rw [if_neg h1]
  have hn : nameB s = true := by
    cases hb : nameB s with
    | true => rfl
    | false => exact absurd (.inl hb) h1
  by_cases h2 : n = 0
  · subst h2
    rw [if_pos rfl]
    exact ⟨w, H, q_rcAdd_zero s _ hl hn, hf, hr, fun b h => .inl h, Fr.refl H⟩
  rw [if_neg h2]
  obtain ⟨k, rfl⟩ : ∃ k : Nat, n = (k : Int) := ⟨n.toNat, by omega⟩
  rw [Int.toNat_natCast]
  by_cases h3 : 4611686018427387904 < totN N + k
  · rw [if_pos h3]
    exact ⟨w, H, q_rcAdd_sum s k hl hn (by omega) (by omega) hf hr (by omega) ht h3, hf, hr, fun b h => .inl h, Fr.refl H⟩
  rw [if_neg h3]
  have hlk := lkp_tot N s
  have hat := atN_lkp s hs
  cases ha : atN N s with
  | none =>
    rw [ha] at hat
    rw [← hat]
    obtain ⟨w', H', e, g1, g2, g3, g4⟩ := q_rcAdd_new s k hl hn (by omega) hf hd ok hr hlen (by omega) ha
    rw [ins_new ha] at g2
    exact ⟨w', H', e, g1, by simpa using g2, fun b h => .inr (g3 b h), g4⟩
  | some a =>
    rw [ha] at hat
    rw [← hat] at hlk ⊢
    have hlk : a ≤ totN N := hlk
    obtain ⟨w', H', e, g1, g2, g3, g4⟩ := q_rcAdd_old s k a hl hn (by omega) hf hd ok hr (by omega) (by omega) ha (by omega)
    rw [ins_old ha] at g2
    exact ⟨w', H', e, g1, g2, fun b h => .inr (g3 b h), g4⟩

theorem lkp_get : ∀ {N : Ec}, Srt N → ∀ {i : Nat} (h : i < N.length), lkp N N[i].1 = some N[i].2
  | p :: N, hs, 0, _ => by simp [lkp]
  | p :: N, hs, i + 1, h => by
    have hp := List.pairwise_cons.1 hs.lt
    have hi : i < N.length := by simpa using h
    have := hp.1 N[i] (List.getElem_mem hi)
    simp only [List.getElem_cons_succ]
    rw [lkp, if_neg (fun e => by rw [e] at this; exact absurd this (List.lt_irrefl _))]
    exact lkp_get ⟨hp.2⟩ hi

theorem l_names {c : Nat} {m : Option Nat} {E : Ec} {tot : Nat} {v0 v5 v6 vn : Value} (hm : MapIs H c m E) (hc : H.f c = .cells [.map m, .int .i64 (tot : Int)] T.stats_Counter true) (hf : H.f d = .cells [w] T.ref26_Counter true) (hr : Rd ENa H w N) (rn : Rd ESt H vn (N.map (·.1))) (r : RelC E N) (hlen : N.length ≤ 1000) (K : K) : ∀ (k i : Nat), i + k = N.length →
    l_law_StatsCounts_1 v0 (.pointer (some ⟨c, 0, none⟩)) (.pointer (some ⟨d, 0, none⟩)) v5 v6 vn (.int .i64 (i : Int)) H (blkK [0, 3, 4, 5, 6] 2 K) = K .normal [(0, v0), (3, .pointer (some ⟨c, 0, none⟩)), (4, .pointer (some ⟨d, 0, none⟩)), (5, v5), (6, v6)] H
  | 0, i, hi => by
    have hlt : ¬ (i : Int) < (N.length : Int) := by omega
    have hl := rn.lenS
    rw [List.length_map] at hl
    rw [r_law_StatsCounts_1]
    simp (disch := first | with_reducible rfl | assumption | omega | rfl | (simp only [go_sem]; first | done | omega)) only [go_sem, ↓reduceIte, reduceCtorEq, Nat.reduceEqDiff, Nat.reduceAdd, Nat.reduceSub, Nat.reduceMul, Nat.reduceDiv, Nat.reduceMod, Nat.reduceLeDiff, Nat.reduceLT, Nat.reduceBEq, Int.reduceEq, Int.reduceBEq, Int.reduceBNe, Int.reduceLT, Int.reduceLE, Int.reduceAdd, Int.reduceSub, Int.reduceNeg, Int.reduceToNat, Int.reducePow, Nat.reducePow, Int.reduceMul, Int.reduceDiv, ↓s_law_StatsCounts_b1, hl, hlt]
  | k + 1, i, hi => by
    have h : i < N.length := by omega
    have hlt : (i : Int) < (N.length : Int) := by omega
    have hl := rn.lenS
    rw [List.length_map] at hl
    obtain ⟨bb, o, ix, c1, c2, hbn, hbl⟩ := Rd.na hr h
    obtain ⟨b2, o2, ix2, hb2, hc2, hbl2⟩ := rn.ix (q := .i64) (i := i) (by rw [List.length_map]; exact h)
    have ix2 : ixS 1 vn (.int .i64 i) = some (.pointer (some ⟨b2, o2, none⟩)) := ix2
    have c3 : cellB (H.f b2) o2 = some (.string N[i].1) := by
      have := cutB_cell hc2 (i := 0) (by decide)
      rw [List.getElem_map] at this
      exact this
    have eg := q_gGet hm hc N[i].1
    rw [r.lk, lkp_get r.srt h] at eg
    have eg : CC F.stats_Counter_Get [.pointer (some ⟨c, 0, none⟩), .string N[i].1] H = some (.int .i64 (N[i].2 : Int), H) := eg
    have ih := l_names (v0 := v0) (v5 := v5) (v6 := v6) hm hc hf hr rn r hlen K k (i + 1) (by omega)
    rw [Int.natCast_add] at ih
    rw [r_law_StatsCounts_1]
    simp (disch := first | with_reducible rfl | assumption | omega | rfl | (simp only [go_sem]; first | done | omega)) only [go_sem, ↓reduceIte, reduceCtorEq, Nat.reduceEqDiff, Nat.reduceAdd, Nat.reduceSub, Nat.reduceMul, Nat.reduceDiv, Nat.reduceMod, Nat.reduceLeDiff, Nat.reduceLT, Nat.reduceBEq, Int.reduceEq, Int.reduceBEq, Int.reduceBNe, Int.reduceLT, Int.reduceLE, Int.reduceAdd, Int.reduceSub, Int.reduceNeg, Int.reduceToNat, Int.reducePow, Nat.reducePow, Int.reduceMul, Int.reduceDiv, ↓s_law_StatsCounts_b1, hl, hlt, ix, ix2, c1, c2, c3, hf, ↓enterK_eq eg, enterK_eq eg]
    exact ih
end

end Go.Proofs.Ytplblfcofplcmaa

/-
  Chapter 26: the law StatsCounts runs to true.
  Conditions: none. By an AI agent.
-/
set_option maxRecDepth 10000
set_option linter.unusedSimpArgs false
set_option linter.unusedVariables false
namespace Go.Proofs.Ytplblfcofplcmaa
open Go Eng
attribute [local congr] bareK_congr' bothK_congr' quietK_congr'

structure CtA where
  s : ByteArray
  n : Int
def ECt : Enc CtA := ⟨2, fun a => [.string a.s, .int .i64 a.n], fun _ => rfl, by decide, fun _ => rfl⟩
abbrev pc (b : Nat) : Value := .pointer (some ⟨b, 0, none⟩)

theorem drop_ct {l m : List CtA} {a : CtA} {i : Nat} (h : l.drop i = a :: m) : ∃ hi : i < l.length, l[i] = a ∧ l.drop (i + 1) = m := by
  have hi : i < l.length := by
    by_cases hi : i < l.length
    · exact hi
    · rw [List.drop_eq_nil_of_le (by omega)] at h; cases h
  rw [List.drop_eq_getElem_cons hi] at h
  cases h
  exact ⟨hi, rfl, rfl⟩

theorem MapIs.keep {S : Nat → Prop} {H H' : AHeap} {c : Nat} {m : Option Nat} {E : Ec} (h : MapIs H c m E) (fr : Fr S H H') (hs : ∀ mb, m = some mb → ¬ S mb) : MapIs H' c m E := by
  cases m with
  | none => exact h
  | some mb =>
    obtain ⟨h1, h2, h3⟩ := h
    have := fr.n
    exact ⟨by rw [fr.f h2 (hs mb rfl)]; exact h1, by omega, h3⟩
theorem MapIs.lt {H : AHeap} {c : Nat} {m : Option Nat} {E : Ec} (h : MapIs H c m E) : ∀ mb, m = some mb → mb < H.n := fun mb e => by
  subst e
  exact h.2.1

structure CtS (v0 : Value) (l : List CtA) (N0 c d : Nat) (m : Option Nat) (w : Value) (E N : Ec) (tot : Nat) (H : AHeap) : Prop where
  rl : Rd ECt H v0 l
  off : ∀ b, blockOf v0 = some b → b < N0
  ok : ∀ b, H.ver b < H.clk
  cn : N0 ≤ c ∧ c < H.n
  dn : N0 ≤ d ∧ d < H.n
  cd : c ≠ d
  fc : H.f c = .cells [.map m, .int .i64 (tot : Int)] T.stats_Counter true
  fd : H.f d = .cells [w] T.ref26_Counter true
  mi : MapIs H c m E
  md : ∀ mb, m = some mb → N0 ≤ mb ∧ mb ≠ d
  mz : m = none → tot = 0
  rw : Rd ENa H w N
  ow : ∀ b, blockOf w = some b → N0 ≤ b ∧ b < H.n ∧ b ≠ c ∧ b ≠ d ∧ m ≠ some b
  r : RelC E N
  tt : totN N = tot
  tl : tot ≤ 4611686018427387904
  nm : ∀ j a, lkp E j = some a → nameB j = true

section
variable {v0 : Value} {l : List CtA} {N0 c d : Nat} {m : Option Nat} {w : Value} {E N : Ec} {tot : Nat} {H : AHeap}

theorem CtS.keep {S : Nat → Prop} {H' : AHeap} (s : CtS v0 l N0 c d m w E N tot H) (fr : Fr S H H') (hs : ∀ b, b < H.n → S b → N0 ≤ b ∧ b ≠ c ∧ b ≠ d ∧ m ≠ some b ∧ blockOf w ≠ some b) : CtS v0 l N0 c d m w E N tot H' := by
  have n := fr.n
  have c1 := s.cn
  have d1 := s.dn
  exact ⟨s.rl.keep fr fun b hb h => by have := s.off b hb; have := (hs b (by omega) h).1; omega, s.off, fr.ok s.ok, by omega, by omega, s.cd,
    by rw [fr.f c1.2 fun h => (hs c c1.2 h).2.1 rfl]; exact s.fc, by rw [fr.f d1.2 fun h => (hs d d1.2 h).2.2.1 rfl]; exact s.fd,
    s.mi.keep fr fun mb e h => (hs mb (s.mi.lt mb e) h).2.2.2.1 e, s.md, s.mz, s.rw.keep fr fun b hb h => (hs b (s.ow b hb).2.1 h).2.2.2.2 hb,
    fun b hb => by have := s.ow b hb; exact ⟨this.1, by omega, this.2.2⟩, s.r, s.tt, s.tl, s.nm⟩
theorem CtS.still {H' : AHeap} (s : CtS v0 l N0 c d m w E N tot H) (fr : Still H H') : CtS v0 l N0 c d m w E N tot H' := s.keep fr fun _ _ h => h.elim

/-- Both Adds. -/
theorem CtS.add (s : CtS v0 l N0 c d m w E N tot H) (x : ByteArray) (hx : (bl x).length ≤ 60) (n : Int) (hN : N.length < 900) :
    ∃ e m' w' E' N' tot' H1 H2, CC F.stats_Counter_Add [pc c, .string x, .int .i64 n] H = some (.int .i64 e, H1) ∧ CC F.ref26_Counter_Add [pc d, .string x, .int .i64 n] H1 = some (.int .i64 e, H2) ∧
      Fr (fun b => b = c ∨ m = some b) H H1 ∧ Fr (fun b => b = d) H1 H2 ∧ CtS v0 l N0 c d m' w' E' N' tot' H2 ∧ N'.length ≤ N.length + 1 ∧ (∀ mb, m' = some mb → m = some mb ∨ H.n ≤ mb) ∧ (∀ b, blockOf w' = some b → blockOf w = some b ∨ H.n ≤ b) := by
  have hEN := s.r.len
  have c1 := s.cn
  have d1 := s.dn
  have hold := lkp_tot N x
  rw [← s.r.lk, s.tt] at hold
  obtain ⟨m', H1, e1, f1, mi1, mz1, fr1, md1⟩ := q_gAdd s.mi s.fc s.ok c1.2 s.mz (by omega) s.tl x hold n
  obtain ⟨g1, g2, g3, g4, g5, g6⟩ := addGR s.r s.tt s.tl s.nm x n
  have n1 := fr1.n
  have nd1 : ¬ (d = c ∨ m = some d) := fun h => h.elim (fun h => s.cd h.symm) fun h => (s.md d h).2 rfl
  have hw1 : Rd ENa H1 w N := s.rw.keep fr1 fun b hb h => by
    have := s.ow b hb
    exact h.elim this.2.2.1 this.2.2.2.2
  obtain ⟨w', H2, e2, f2, r2, ow2, fr2⟩ := q_rAddA x (by omega) (by rw [fr1.f d1.2 nd1]; exact s.fd) (by omega : d < H1.n) (fr1.ok s.ok) hw1 (by omega) (by rw [s.tt]; exact s.tl) s.r.srt n
  rw [← g1] at e2
  have n2 := fr2.n
  have hmd : ∀ mb, m' = some mb → N0 ≤ mb ∧ mb ≠ d := fun mb h => by
    rcases md1 mb h with h | h
    · exact s.md mb h
    · omega
  refine ⟨_, m', w', _, _, _, H1, H2, e1, e2, fr1, fr2, ⟨?_, s.off, fr2.ok (fr1.ok s.ok), by omega, by omega, s.cd, ?_, f2, ?_, hmd, mz1, r2, ?_, g2, g3, g4, g6⟩, g5, fun mb h => (md1 mb h).imp _root_.id fun h => h.1, fun b h => (ow2 b h).imp _root_.id fun h => (by omega)⟩
  · exact (s.rl.keep fr1 fun b hb h => by
      have := s.off b hb
      rcases h with h | h
      · omega
      · have := (s.md b h).1; omega).keep fr2 fun b hb h => by have := s.off b hb; omega
  · rw [fr2.f (by omega) s.cd]; exact f1
  · exact mi1.keep fr2 fun mb e h => (hmd mb e).2 h
  · intro b hb
    have hk : blockOf w = some b ∨ (H1.n ≤ b ∧ b < H2.n) := ow2 b hb
    rcases hk with hk | hk
    · have h5 := s.ow b hk
      refine ⟨h5.1, by omega, h5.2.2.1, h5.2.2.2.1, fun e => ?_⟩
      rcases md1 b e with h | h
      · exact h5.2.2.2.2 h
      · omega
    · refine ⟨by omega, hk.2, by omega, by omega, fun e => ?_⟩
      have := mi1.lt b e
      omega

theorem no_name (s : ByteArray) : nameB (mk (bl s ++ [32])) = false := by
  unfold nameB
  rw [bl_mk, List.all_append]
  have : [(32 : UInt8)].all okb = false := by decide
  rw [this]
  simp
theorem add_s {t : TypeId} {ox oy : Operand} {a b : ByteArray} (h : (bl a).length + (bl b).length ≤ 4611686018427387904) : xbin Try.prog .add t ox oy (.string a) (.string b) = some (.string (mk (bl a ++ bl b))) := by
  have g : xbin Try.prog .add t ox oy (.string a) (.string b) = strOp .add a b := rfl
  rw [g]
  unfold strOp
  exact if_pos h

abbrev KC (K : K) : Eng.K := blkK [] 0 (seqK (fun _ h9 => K .ret [(2, .bool true)] h9) K)
set_option maxHeartbeats 4000000 in
theorem l_counts (hl : l.length ≤ 40) : ∀ (r : List CtA) (i : Nat) (m : Option Nat) (w : Value) (E N : Ec) (tot : Nat) (H : AHeap), l.drop i = r → i ≤ l.length → CtS v0 l N0 c d m w E N tot H → N.length ≤ i →
    ∃ H', ∀ K, l_law_StatsCounts_0 v0 (pc c) (pc d) (.int .i64 (i : Int)) H (KC K) = K .ret [(2, .bool true)] H'
  | [], i, m, w, E, N, tot, H, hm, hi, s, hN => by
    have hh : l.length ≤ i := List.drop_eq_nil_iff.1 hm
    have hlt : ¬ (i : Int) < (l.length : Int) := by omega
    have hlen := s.rl.lenS
    refine ⟨H, fun K => ?_⟩
    rw [r_law_StatsCounts_0]
    simp (disch := first | with_reducible rfl | assumption | omega | rfl | (simp only [go_sem]; first | done | omega)) only [go_sem, ↓reduceIte, reduceCtorEq, Nat.reduceEqDiff, Nat.reduceAdd, Nat.reduceSub, Nat.reduceMul, Nat.reduceDiv, Nat.reduceMod, Nat.reduceLeDiff, Nat.reduceLT, Nat.reduceBEq, Int.reduceEq, Int.reduceBEq, Int.reduceBNe, Int.reduceLT, Int.reduceLE, Int.reduceAdd, Int.reduceSub, Int.reduceNeg, Int.reduceToNat, Int.reducePow, Nat.reducePow, Int.reduceMul, Int.reduceDiv, ↓s_law_StatsCounts_b0, hlen, hlt, e_known]
  | a :: r, i, m, w, E, N, tot, H, hm, hi, s, hN => by
    obtain ⟨hh, ha, hm'⟩ := drop_ct hm
    have hlt : (i : Int) < (l.length : Int) := by omega
    have hlen := s.rl.lenS
    obtain ⟨bb, of, ix, hbn, hc, hbl⟩ := s.rl.ix (q := .i64) hh
    have ix : ixS 2 v0 (.int .i64 i) = some (.pointer (some ⟨bb, of, none⟩)) := ix
    rw [ha] at hc
    have c0 : cellB (H.f bb) of = some (.string a.s) := cutB_cell hc (i := 0) (by decide)
    have c1 : cellB (H.f bb) (of + 1) = some (.int .i64 a.n) := cutB_cell hc (i := 1) (by decide)
    have hbb : bb < N0 := s.off bb hbl
    by_cases h60 : 60 < (bl a.s).length
    · have h60' : (60 : Int) < ((bl a.s).length : Int) := by omega
      refine ⟨H, fun K => ?_⟩
      rw [r_law_StatsCounts_0]
      simp (disch := first | with_reducible rfl | assumption | omega | rfl | (simp only [go_sem]; first | done | omega)) only [go_sem, ↓reduceIte, reduceCtorEq, Nat.reduceEqDiff, Nat.reduceAdd, Nat.reduceSub, Nat.reduceMul, Nat.reduceDiv, Nat.reduceMod, Nat.reduceLeDiff, Nat.reduceLT, Nat.reduceBEq, Int.reduceEq, Int.reduceBEq, Int.reduceBNe, Int.reduceLT, Int.reduceLE, Int.reduceAdd, Int.reduceSub, Int.reduceNeg, Int.reduceToNat, Int.reducePow, Nat.reducePow, Int.reduceMul, Int.reduceDiv, ↓s_law_StatsCounts_b0, hlen, hlt, ix, c0, h60', e_known]
    have h60' : ¬ (60 : Int) < ((bl a.s).length : Int) := by omega
    have b1 := s.cn
    have b2 := s.dn
    -- the copy
    obtain ⟨c', m', H1, e1, f1, mi1, k1, k2, km, s1⟩ := q_gCopy s.mi b1.2 s.fc
    have n1 := s1.n
    have sb := s.still s1
    -- both Adds
    obtain ⟨e, m2, w2, E2, N2, t2, H2, H3, e2, e3, fr2, fr3, sc, hN2, hm2, hw2⟩ := sb.add a.s (by omega) a.n (by omega)
    have n2 := fr2.n
    have n3 := fr3.n
    have g1 : H1.f bb = H.f bb := s1.f hbn fun h => h
    have nb2 : ¬ (bb = c ∨ m = some bb) := fun h => h.elim (fun h => by omega) fun h => by have := (s.md bb h).1; omega
    have g2 : H2.f bb = H.f bb := by rw [fr2.f (by omega) nb2]; exact g1
    have v2 : H1.n ≤ bb ∨ H2.ver bb = H1.ver bb := .inr (fr2.ver (by omega) nb2)
    have e4 := q_gTotal sc.fc
    have e5 := q_rcTotal sc.fd sc.rw (by omega) (by rw [sc.tt]; exact sc.tl)
    rw [sc.tt] at e5
    -- the names
    have hE : ∀ p ∈ E2, p.1.size ≤ 1000 := fun p hp => by
      have hk : has E2 p.1 = true := lkp_key.2 (List.mem_map.2 ⟨p, hp, rfl⟩)
      unfold has at hk
      obtain ⟨a', ha'⟩ := Option.isSome_iff_exists.1 hk
      have := sc.nm _ _ ha'
      unfold nameB at this
      simp only [Bool.and_eq_true, decide_eq_true_eq] at this
      have h40 := this.2.2
      have : (bl p.1).length = p.1.size := by simp [bl]
      omega
    have hEN := sc.r.len
    obtain ⟨vn, H4, e6, rn, bn, s4⟩ := q_gNames sc.mi sc.fc sc.r hE (by omega)
    have n4 := s4.n
    have sd := sc.still s4
    have hln := rn.lenS
    rw [List.length_map] at hln
    have hlw := sd.rw.lenS
    have e7 := fun (v6 : Value) (K : Eng.K) => l_names (v0 := v0) (v5 := .int .i64 (i : Int)) (v6 := v6) sd.mi sd.fc sd.fd sd.rw rn sd.r (by omega) K N2.length 0 (by omega)
    have e7 : ∀ (v6 : Value) (K : Eng.K), l_law_StatsCounts_1 v0 (pc c) (pc d) (.int .i64 (i : Int)) v6 vn (.int .i64 0) H4 (blkK [0, 3, 4, 5, 6] 2 K) = K .normal [(0, v0), (3, pc c), (4, pc d), (5, .int .i64 (i : Int)), (6, v6)] H4 := e7
    -- the copy goes on by itself
    have kc : ∀ {S : Nat → Prop} {Ha Hb : AHeap}, Fr S Ha Hb → H1.n ≤ Ha.n → (∀ b, b < Ha.n → S b → b ≠ c' ∧ m' ≠ some b) → Ha.f c' = .cells [.map m', .int .i64 (tot : Int)] T.stats_Counter true → MapIs Ha c' m' E → Hb.f c' = .cells [.map m', .int .i64 (tot : Int)] T.stats_Counter true ∧ MapIs Hb c' m' E := fun fr hn hs hf hmi =>
      ⟨by rw [fr.f (by omega) fun h => (hs _ (by omega) h).1 rfl]; exact hf, hmi.keep fr fun mb em h => (hs _ (hmi.lt mb em) h).2 em⟩
    have mlt : ∀ mb, m = some mb → mb < H.n := s.mi.lt
    obtain ⟨f2, mi2⟩ := kc fr2 (Nat.le_refl _) (fun b _ h => ⟨by
      rcases h with h | h
      · omega
      · have := mlt b h; omega, fun em => by
      have := km b em
      rcases h with h | h
      · omega
      · have := mlt b h; omega⟩) f1 mi1
    obtain ⟨f3, mi3⟩ := kc fr3 (by omega) (fun b _ h => ⟨by omega, fun em => by have := km b em; omega⟩) f2 mi2
    obtain ⟨f4, mi4⟩ := kc s4 (by omega) (fun b _ h => h.elim) f3 mi3
    have hold := lkp_tot N (mk [111, 116, 104, 101, 114])
    rw [← s.r.lk, s.tt] at hold
    have hEl := s.r.len
    have mz4 : m' = none → tot = 0 := fun em => by
      subst em
      have hE0 : E = [] := mi1
      rw [← s.tt]
      have : N = [] := List.length_eq_zero_iff.1 (by rw [← hEl, hE0]; rfl)
      rw [this]
      rfl
    obtain ⟨m5, H5, e8, _, _, _, fr5, _⟩ := q_gAdd mi4 f4 sd.ok (by omega : c' < H4.n) mz4 (by omega) s.tl (mk [111, 116, 104, 101, 114]) hold 1
    have e8 : CC F.stats_Counter_Add [pc c', .string (mk [111, 116, 104, 101, 114]), .int .i64 1] H4 = some (.int .i64 (addG E tot (mk [111, 116, 104, 101, 114]) 1).1, H5) := e8
    have n5 := fr5.n
    have hc4 : c < H4.n ∧ d < H4.n := ⟨sd.cn.2, sd.dn.2⟩
    have se : CtS v0 l N0 c d m2 w2 E2 N2 t2 H5 := sd.keep fr5 fun b hb h => by
      have hbn : H.n ≤ b := by
        rcases h with h | h
        · omega
        · exact km b h
      have hb1 : b < H1.n := by
        rcases h with h | h
        · omega
        · exact mi1.lt b h
      exact ⟨by omega, by omega, by omega, fun h2 => by
        rcases hm2 b h2 with h3 | h3
        · have := mlt b h3; omega
        · omega, fun h2 => by
        rcases hw2 b h2 with h3 | h3
        · have := (s.ow b h3).2.1; omega
        · omega⟩
    have e9 := q_gTotal se.fc
    have e10 := q_rcTotal se.fd se.rw (by omega) (by rw [se.tt]; exact se.tl)
    rw [se.tt] at e10
    have e11 := q_gGet se.mi se.fc (mk (bl a.s ++ [32]))
    have hno : lkp E2 (mk (bl a.s ++ [32])) = none := by
      cases hk : lkp E2 (mk (bl a.s ++ [32])) with
      | none => rfl
      | some b =>
        have := se.nm _ _ hk
        rw [no_name] at this
        cases this
    rw [hno] at e11
    have e11 : CC F.stats_Counter_Get [pc c, .string (mk (bl a.s ++ [32]))] H5 = some (.int .i64 0, H5) := e11
    have g5 : H5.f bb = H.f bb := by
      rw [fr5.f (by omega) (fun h => h.elim (fun h => by omega) fun h => by have := km bb h; omega), s4.f (by omega) fun h => h, fr3.f (by omega) (by omega)]
      exact g2
    have ad : ∀ ox oy, xbin Try.prog .add T.string ox oy (.string a.s) (.string (mk [32])) = some (.string (mk (bl a.s ++ [32]))) := fun ox oy => add_s (by rw [bl_mk]; simp; omega)
    obtain ⟨H6, ih⟩ := l_counts hl r (i + 1) m2 w2 E2 N2 t2 H5 hm' hh se (by omega)
    refine ⟨H6, fun K => ?_⟩
    have ih := ih K
    rw [Int.natCast_add] at ih
    have fd3 := sc.fd
    have fd4 := sd.fd
    have hlw3 := sc.rw.lenS
    rw [r_law_StatsCounts_0]
    simp (disch := first | with_reducible rfl | assumption | omega | rfl | (simp only [go_sem]; first | done | omega)) only [go_sem, ↓reduceIte, reduceCtorEq, Nat.reduceEqDiff, Nat.reduceAdd, Nat.reduceSub, Nat.reduceMul, Nat.reduceDiv, Nat.reduceMod, Nat.reduceLeDiff, Nat.reduceLT, Nat.reduceBEq, Int.reduceEq, Int.reduceBEq, Int.reduceBNe, Int.reduceLT, Int.reduceLE, Int.reduceAdd, Int.reduceSub, Int.reduceNeg, Int.reduceToNat, Int.reducePow, Nat.reducePow, Int.reduceMul, Int.reduceDiv, ↓s_law_StatsCounts_b0, hlen, hlt, ix, c0, c1, h60', ↓enterK_eq e1, enterK_eq e1, cp_some, g1, g2, g5, ↓enterK_eq e2, enterK_eq e2, ↓enterK_eq e3, enterK_eq e3, ↓enterK_eq e4, enterK_eq e4, ↓enterK_eq e5, enterK_eq e5, ↓enterK_eq e6, enterK_eq e6, fd3, fd4, hln, hlw, hlw3, e7, ↓enterK_eq e8, enterK_eq e8, ↓enterK_eq e9, enterK_eq e9, ↓enterK_eq e10, enterK_eq e10, ↓ad, ad, ↓enterK_eq e11, enterK_eq e11]
    exact ih
end

attribute [-go_sem] bldS
theorem q_StatsCounts (l : List CtA) (v : Value) (H : AHeap) (ok : ∀ c, H.ver c < H.clk) (rl : Rd ECt H v l) (ov : ∀ c, blockOf v = some c → c < H.n) : ∃ H', CC F.law_StatsCounts [v] H = some (.bool true, H') := by
  have hll := rl.lenS
  by_cases h40 : 40 < l.length
  · have h' : (40 : Int) < (l.length : Int) := by omega
    refine any_of (H1 := H) (d_law_StatsCounts _ H ?_)
    simp (disch := first | with_reducible rfl | assumption | omega | rfl | (simp only [go_sem]; first | done | omega)) only [go_sem, ↓reduceIte, reduceCtorEq, Nat.reduceEqDiff, Nat.reduceAdd, Nat.reduceSub, Nat.reduceMul, Nat.reduceDiv, Nat.reduceMod, Nat.reduceLeDiff, Nat.reduceLT, Nat.reduceBEq, Int.reduceEq, Int.reduceBEq, Int.reduceBNe, Int.reduceLT, Int.reduceLE, Int.reduceAdd, Int.reduceSub, Int.reduceNeg, Int.reduceToNat, Int.reducePow, Nat.reducePow, Int.reduceMul, Int.reduceDiv, ↓s_law_StatsCounts, hll, h', e_known]
  have h40' : ¬ (40 : Int) < (l.length : Int) := by omega
  obtain ⟨H1, hH1⟩ : ∃ H1, H.push (.cells [.map none, .int .i64 0] T.stats_Counter true) = H1 := ⟨_, rfl⟩
  obtain ⟨H2, hH2⟩ : ∃ H2, H1.push (.cells [.slice none 0 0] T.ref26_Counter true) = H2 := ⟨_, rfl⟩
  have n1 : H1.n = H.n + 1 := by rw [← hH1]; rfl
  have n2 : H2.n = H.n + 2 := by rw [← hH2]; show H1.n + 1 = _; omega
  have st : Still H H2 := by rw [← hH2, ← hH1]; exact ((Fr.refl H).push _).push _
  have s0 : CtS v l H.n H.n (H.n + 1) none (.slice none 0 0) [] [] 0 H2 := ⟨rl.still st, ov, st.ok ok, by omega, by omega, by omega,
    by rw [← hH2, push_f_ne (by omega), ← hH1]; exact push_f_eq rfl, by rw [← hH2]; exact push_f_eq n1.symm, rfl, fun mb h => (by cases h), fun _ => rfl, .inl ⟨rfl, rfl⟩, fun b h => (by cases h), RelC.empty, rfl, by decide, fun j a h => (by cases h)⟩
  obtain ⟨H5, hl⟩ := l_counts (by omega) l 0 _ _ _ _ _ H2 rfl (Nat.zero_le _) s0 (by simp)
  have hl : l_law_StatsCounts_0 v (pc H.n) (pc (H.n + 1)) (.int .i64 0) H2 (KC (endK Try.prog [.tmp 2])) = some (.bool true, H5) := hl _
  have bs : bldS #[(.slice none 0 0)] [(0, 1)] [] = some (.agg #[.slice none 0 0]) := rfl
  refine any_of (H1 := H5) (d_law_StatsCounts _ H ?_)
  simp (disch := first | with_reducible rfl | assumption | omega | rfl | (simp only [go_sem]; first | done | omega)) only [go_sem, ↓reduceIte, reduceCtorEq, Nat.reduceEqDiff, Nat.reduceAdd, Nat.reduceSub, Nat.reduceMul, Nat.reduceDiv, Nat.reduceMod, Nat.reduceLeDiff, Nat.reduceLT, Nat.reduceBEq, Int.reduceEq, Int.reduceBEq, Int.reduceBNe, Int.reduceLT, Int.reduceLE, Int.reduceAdd, Int.reduceSub, Int.reduceNeg, Int.reduceToNat, Int.reducePow, Nat.reducePow, Int.reduceMul, Int.reduceDiv, ↓s_law_StatsCounts, hll, h40', hH1, hH2, n1, bldS_nil, e_known]
  exact hl

theorem ct_lt {e : TypeId} {H : AHeap} {v : Value} (h : SlOk e H v) : ∀ c, blockOf v = some c → c < H.n := by
  rcases h with rfl | ⟨b, o, n, code, rfl, _, _, h3⟩
  · intro c h; cases h
  · intro c h; cases h; exact h3

theorem run_StatsCounts (W : World) (v : Value) (l : List CtA) (rl : RdS ECt T.law_Count (absHeap2 W) v l) (_ : ∀ x, x ∈ l → True) (_ : l.length ≤ maxLen) : ∃ k H', dCall Try.prog prims1 hints k F.law_StatsCounts [v] (absHeap2 W) = some (.bool true, H') := by
  obtain ⟨H', h⟩ := q_StatsCounts l v (absHeap2 W) (fun _ => Nat.zero_lt_one) rl.1 (ct_lt rl.2)
  obtain ⟨k, h⟩ := D_run h
  exact ⟨k, _, h⟩

theorem decCount {W : World} {H : Type} {enc : TypeId × Value → H} (_ : 0 < W.heap.size) {cs : List Value} {n : Nat} {y : DataW H × List MemPlace} (h : DataW.trod enc Try.prog W 0 (fun _ => true) true n T.law_Count cs = some y) (hl : cs.length = ECt.w) :
    ∃ a : CtA, cs.map (conv2 W.heap.size) = ECt.enc a ∧ True := by
  have ht := Try.underlying64
  obtain ⟨c0, c1, rfl⟩ : ∃ c0 c1, cs = [c0, c1] := by
    match cs, hl with
    | [c0, c1], _ => exact ⟨_, _, rfl⟩
  obtain ⟨m0, z0, h0⟩ := dec_field ht h (i := 0) rfl rfl (by kernel_rfl) rfl
  obtain ⟨m1, z1, h1⟩ := dec_field ht h (i := 1) rfl rfl (by kernel_rfl) rfl
  obtain ⟨s0, rfl, _⟩ := dec_str Try.underlying9 h0
  obtain ⟨s1, rfl, _⟩ := dec_int Try.underlying3 h1
  exact ⟨⟨s0, s1⟩, rfl, trivial⟩

end Go.Proofs.Ytplblfcofplcmaa

/-
  The law StatsCounts: for every input it returns true, and its input reads as it did.
  Conditions: none. By an AI agent.
-/
namespace Go.Proofs.Ytplblfcofplcmaa.statsCounts
open Go.ChangeShapes Go.WideShapes Go.ChangeAt Go.RowKit
open Go.ChangeMaps (open_string shut_string)
set_option linter.unusedVariables false
theorem own : ownKnob Try.prog.godebug = none := by kernel_rfl
theorem laidOut : laidOutB Try.prog = true := by kernel_rfl
set_option maxRecDepth 100000 in
theorem lifted (os : Os) (started : os.Started) (H : Type) (enc : TypeId × Value → H) :
    ReturnsInHanded {} Try.checked os 6 .any (Rows.statsCountsSpec.pre6 enc Try.prog Try.f6 Rows.statsCountsRow.domain false) (Rows.statsCountsSpec.post enc Try.prog Try.f6 false true false false) := by
  refine returnsInHanded_of_change_sized (C := Try.checked) own started (by kernel_rfl) Try.func6
    (ChangeSpec.witness6 (enc := enc) (C := Try.checked) false ⟨#[], #[.slice none 0 0], []⟩ 8 (by kernel_rfl) (by kernel_rfl) (by kernel_rfl) (by kernel_rfl)) ?_
  intro W base args ds gs before hval0 hW hcnd hsz0 _
  have hsz : (DataW.weightsEach Try.prog (Try.f6.params.toList ++ Rows.statsCountsSpec.plain.varTypes Try.prog) (ds ++ gs)).all (· ≤ reachBytes) = true := hsz0
  have hval : ∀ (j : Nat) t v, Try.f6.params[j]? = some t → args[j]? = some v → Value.okWide Try.prog W .any base t v := hval0
  have hW' := hW
  obtain ⟨p, q, hA0, hV, rfl, hfz, hnd⟩ := hW
  have hA : DataW.TrodAll enc Try.prog W 0 (fun _ => true) true Try.f6.params.toList args.toList ds p := hA0
  rw [Try.params6] at hA hval hsz
  obtain ⟨v0, vs0, d0, ds0, p0, q0, hargs, rfl, rfl, h0, r0⟩ := trodAll_cons hA
  obtain ⟨rfl, rfl, rfl⟩ := trodAll_nil r0
  obtain rfl : args = #[v0] := by cases args; simp_all
  obtain ⟨rfl, rfl⟩ := trodVars_none hV
  have k0 := h0
  have lt0 : ∀ x ∈ p0, x.block < W.heap.size := by obtain ⟨m, hm⟩ := k0; exact DataW.trod_lt m _ _ _ hm
  obtain ⟨l0, rd0, all0, len0⟩ := Eng.open_rd2 (t := 58) (e' := 64) Try.underlying58 (by kernel_rfl) (fun hp cs n y h hl => decCount hp h hl) (hval 0 58 v0 rfl rfl) k0
  refine (Eng.law_calls2 (args := #[v0]) prims1_ok mixed (fun _ hg => absurd hg List.not_mem_nil) (run_StatsCounts W (Eng.convA2 W.heap.size v0) l0 rd0 all0 len0)).mono fun e W' ⟨he, bel⟩ => ?_
  subst he
  exact ⟨_, rfl, _, _, _, [], _, [], hW', trodAll_mk1 (shut_bool Try.underlying4 _), (trodAll_cons_mk (Below.trod laidOut (by kernel_rfl) (of_decide_eq_true (by kernel_rfl)) k0 bel lt0) trodAll_mk0), rfl, bel.frame _, fun h => by cases h⟩

theorem over : Rows.statsCountsRow.holds Try.pinned (OpenSpec.ofChange Rows.statsCountsSpec) :=
  OpenClaim.holds_of_wide 6 Try.f6 rfl rfl rfl rfl rfl rfl rfl ⟨rfl, rfl, rfl, rfl, rfl⟩ rfl rfl rfl rfl rfl (by kernel_rfl) Try.func6 (by kernel_rfl)
    (of_decide_eq_true (by kernel_rfl)) (by unfold Func.isWrapper; first | (rw [if_pos (by decide +kernel)]; kernel_rfl) | (rw [if_neg (by decide +kernel)]; exact ⟨rfl, rfl⟩))
    (fun os started H enc _ => lifted os started H enc)
theorem proved : Rows.StatsCountsSaid := over
#print axioms proved
end Go.Proofs.Ytplblfcofplcmaa.statsCounts
namespace Go.Proofs.Ytplblfcofplcmaa
/-- The row, under a short name, for the claim. -/
theorem statsCounts_holds : Rows.StatsCountsSaid := statsCounts.proved
end Go.Proofs.Ytplblfcofplcmaa
