/-
  17 texts in one (merge.py): A ShStatsBuckets DsStatsBuckets B Eng35 C D E G I J K M N ShStatsPlays DsStatsPlays O.
  Conditions: none. By an AI agent.
-/
import Derived.Test.YtplblfcofplcmaaQc3
import Derived.Test.YtplblfcofplcmaaChecked
import Derived.KernelRfl

/-
  Chapter 26: the bucket of a number, the bounds of a bucket.
  Conditions: none. By an AI agent.
-/
set_option maxRecDepth 10000
set_option linter.unusedSimpArgs false
set_option linter.unusedVariables false
namespace Go.Proofs.Ytplblfcofplcmaa
open Go Eng

def lenN (x : Nat) : Nat := if x = 0 then 0 else Nat.log2 x + 1
theorem lenN_of {x b : Nat} (h1 : 2 ^ b ≤ x) (h2 : x < 2 ^ (b + 1)) : lenN x = b + 1 := by
  have hx : x ≠ 0 := by have := Nat.two_pow_pos b; omega
  unfold lenN
  rw [if_neg hx, (Nat.log2_eq_iff hx).2 ⟨h1, h2⟩]
theorem lenN_spec {x : Nat} (hx : x ≠ 0) : ∃ b, lenN x = b + 1 ∧ 2 ^ b ≤ x ∧ x < 2 ^ (b + 1) :=
  ⟨Nat.log2 x, by unfold lenN; rw [if_neg hx], ((Nat.log2_eq_iff hx).1 rfl).1, ((Nat.log2_eq_iff hx).1 rfl).2⟩
theorem lenN_div {x : Nat} (k : Nat) (h : 2 ^ k ≤ x) : lenN x = k + lenN (x / 2 ^ k) := by
  have hp := Nat.two_pow_pos k
  have hy : x / 2 ^ k ≠ 0 := by
    have : 1 ≤ x / 2 ^ k := (Nat.le_div_iff_mul_le hp).2 (by omega)
    omega
  obtain ⟨b, e, h1, h2⟩ := lenN_spec hy
  rw [e]
  have a1 : 2 ^ b * 2 ^ k ≤ x := (Nat.le_div_iff_mul_le hp).1 h1
  have a2 : x < 2 ^ (b + 1) * 2 ^ k := (Nat.div_lt_iff_lt_mul hp).1 h2
  rw [← Nat.pow_add] at a1 a2
  rw [show k + (b + 1) = (b + k) + 1 by omega]
  exact lenN_of a1 (by rw [show b + k + 1 = b + 1 + k by omega]; exact a2)

theorem tab8 : ∀ i : Fin 256, (bl (mk [0, 1, 2, 2, 3, 3, 3, 3, 4, 4, 4, 4, 4, 4, 4, 4, 5, 5, 5, 5, 5, 5, 5, 5, 5, 5, 5, 5, 5, 5, 5, 5, 6, 6, 6, 6, 6, 6, 6, 6, 6, 6, 6, 6, 6, 6, 6, 6, 6, 6, 6, 6, 6, 6, 6, 6, 6, 6, 6, 6, 6, 6, 6, 6, 7, 7, 7, 7, 7, 7, 7, 7, 7, 7, 7, 7, 7, 7, 7, 7, 7, 7, 7, 7, 7, 7, 7, 7, 7, 7, 7, 7, 7, 7, 7, 7, 7, 7, 7, 7, 7, 7, 7, 7, 7, 7, 7, 7, 7, 7, 7, 7, 7, 7, 7, 7, 7, 7, 7, 7, 7, 7, 7, 7, 7, 7, 7, 7, 8, 8, 8, 8, 8, 8, 8, 8, 8, 8, 8, 8, 8, 8, 8, 8, 8, 8, 8, 8, 8, 8, 8, 8, 8, 8, 8, 8, 8, 8, 8, 8, 8, 8, 8, 8, 8, 8, 8, 8, 8, 8, 8, 8, 8, 8, 8, 8, 8, 8, 8, 8, 8, 8, 8, 8, 8, 8, 8, 8, 8, 8, 8, 8, 8, 8, 8, 8, 8, 8, 8, 8, 8, 8, 8, 8, 8, 8, 8, 8, 8, 8, 8, 8, 8, 8, 8, 8, 8, 8, 8, 8, 8, 8, 8, 8, 8, 8, 8, 8, 8, 8, 8, 8, 8, 8, 8, 8, 8, 8, 8, 8, 8, 8, 8, 8, 8, 8, 8, 8, 8, 8, 8, 8, 8, 8, 8, 8]))[i.val]? = some (UInt8.ofNat (lenN i.val)) := by decide +kernel
theorem len8 : ∀ i : Fin 256, lenN i.val ≤ 8 := by decide +kernel
theorem idx_tab {s : ByteArray} {i : Int} (hs : ∀ i : Fin 256, (bl s)[i.val]? = some (UInt8.ofNat (lenN i.val))) (h : 0 ≤ i ∧ i < 256) : xindex Try.prog T.string (.string s) (.int .u8 i) = some (.int .u8 (lenN i.toNat)) := by
  have h0 := hs ⟨i.toNat, by omega⟩
  have h1 := len8 ⟨i.toNat, by omega⟩
  unfold xindex
  rw [show Try.prog.underlying T.string = some .string from Try.underlying9]
  simp only [h.1, if_true]
  rw [h0]
  simp only at h1
  simp only [Option.map_some, byteCell]
  congr 2
  rw [UInt8.toNat_ofNat']
  omega
theorem len8I {i : Int} (h : 0 ≤ i ∧ i < 256) : 0 ≤ (lenN i.toNat : Int) ∧ (lenN i.toNat : Int) ≤ 8 := by
  have h1 := len8 ⟨i.toNat, by omega⟩
  simp only at h1
  omega

theorem q_Len64 (x : Nat) (hx : x < 2199023255552) (H : AHeap) : CC F.math_bits_Len64 [.int .u64 (x : Int)] H = some (.int .i64 (lenN x), H) := by
  have ht := tab8
  have s32 : ∀ ox oy, xbin Try.prog .shr T.uint64 ox oy (.int .u64 (x : Int)) (.int .u64 32) = some (.int .u64 ((x : Int) / 4294967296)) := fun ox oy => shrP (by decide)
  have s16 : ∀ ox oy (y : Int), xbin Try.prog .shr T.uint64 ox oy (.int .u64 y) (.int .u64 16) = some (.int .u64 (y / 65536)) := fun ox oy y => shrP (by decide)
  have s8 : ∀ ox oy (y : Int), xbin Try.prog .shr T.uint64 ox oy (.int .u64 y) (.int .u64 8) = some (.int .u64 (y / 256)) := fun ox oy y => shrP (by decide)
  have cu : ∀ (y : Int) H, 0 ≤ y ∧ y < 256 → xconv Try.prog T.uint64 T.uint8 (.int .u64 y) H = some (.int .u8 y, H) := fun y H hy => by rw [show xconv Try.prog T.uint64 T.uint8 (.int .u64 y) H = _ from xconv_int Try.underlying48 Try.underlying5, wrap_u8 hy]
  have ci : ∀ (y : Int) H, 0 ≤ y ∧ y < 256 → xconv Try.prog T.uint8 T.int (.int .u8 y) H = some (.int .i64 y, H) := fun y H hy => by rw [show xconv Try.prog T.uint8 T.int (.int .u8 y) H = _ from xconv_int Try.underlying5 Try.underlying3, wrap_i64 (by omega)]
  by_cases h1 : 4294967296 ≤ x
  · have h1' : (4294967296 : Int) ≤ (x : Int) := by omega
    have h2' : ¬ (65536 : Int) ≤ (x : Int) / 4294967296 := by omega
    obtain ⟨R, hR⟩ : ∃ R, lenN x = R := ⟨_, rfl⟩
    have hR2 := hR; rw [lenN_div 32 h1] at hR2
    rw [hR]
    by_cases h3 : 256 ≤ x / 4294967296
    · have h3' : (256 : Int) ≤ (x : Int) / 4294967296 := by omega
      have hy : 0 ≤ (x : Int) / 4294967296 / 256 ∧ (x : Int) / 4294967296 / 256 < 256 := by omega
      have hz := len8I hy
      have e : lenN (x / 2 ^ 32) = 8 + lenN ((x : Int) / 4294967296 / 256).toNat := by rw [lenN_div 8 h3]; rfl
      apply pure_of _ (d_math_bits_Len64 _ H) rfl
      rotate_left 2
      · simp (disch := first | with_reducible rfl | assumption | omega | rfl | (simp only [go_sem]; first | done | omega)) only [go_sem, ↓reduceIte, reduceCtorEq, Nat.reduceEqDiff, Nat.reduceAdd, Nat.reduceSub, Nat.reduceMul, Nat.reduceDiv, Nat.reduceMod, Nat.reduceLeDiff, Nat.reduceLT, Nat.reduceBEq, Int.reduceEq, Int.reduceBEq, Int.reduceBNe, Int.reduceLT, Int.reduceLE, Int.reduceAdd, Int.reduceSub, Int.reduceNeg, Int.reduceToNat, Int.reducePow, Nat.reducePow, Int.reduceMul, Int.reduceDiv, ↓s_math_bits_Len64, s32, s8, cu, ci, idx_tab ht hy, h1', h2', h3', hy, hz]
        have hE : (R : Int) = 40 + (lenN ((x : Int) / 4294967296 / 256).toNat : Int) := by rw [e] at hR2; omega
        rw [hE]
      · (repeat (first | exact Fr.refl _ | refine Fr.push ?_ _ | refine Fr.set ?_ _ _ (by intro h; first | omega | (simp only [go_sem] at h; omega))))
    · have h3' : ¬ (256 : Int) ≤ (x : Int) / 4294967296 := by omega
      have hy : 0 ≤ (x : Int) / 4294967296 ∧ (x : Int) / 4294967296 < 256 := by omega
      have hz := len8I hy
      have e : lenN (x / 2 ^ 32) = lenN ((x : Int) / 4294967296).toNat := by congr 1
      apply pure_of _ (d_math_bits_Len64 _ H) rfl
      rotate_left 2
      · simp (disch := first | with_reducible rfl | assumption | omega | rfl | (simp only [go_sem]; first | done | omega)) only [go_sem, ↓reduceIte, reduceCtorEq, Nat.reduceEqDiff, Nat.reduceAdd, Nat.reduceSub, Nat.reduceMul, Nat.reduceDiv, Nat.reduceMod, Nat.reduceLeDiff, Nat.reduceLT, Nat.reduceBEq, Int.reduceEq, Int.reduceBEq, Int.reduceBNe, Int.reduceLT, Int.reduceLE, Int.reduceAdd, Int.reduceSub, Int.reduceNeg, Int.reduceToNat, Int.reducePow, Nat.reducePow, Int.reduceMul, Int.reduceDiv, ↓s_math_bits_Len64, s32, s8, cu, ci, idx_tab ht hy, h1', h2', h3', hy, hz]
        have hE : (R : Int) = 32 + (lenN ((x : Int) / 4294967296).toNat : Int) := by rw [e] at hR2; omega
        rw [hE]
      · (repeat (first | exact Fr.refl _ | refine Fr.push ?_ _ | refine Fr.set ?_ _ _ (by intro h; first | omega | (simp only [go_sem] at h; omega))))
  · have h1' : ¬ (4294967296 : Int) ≤ (x : Int) := by omega
    by_cases h2 : 65536 ≤ x
    · have h2' : (65536 : Int) ≤ (x : Int) := by omega
      obtain ⟨R, hR⟩ : ∃ R, lenN x = R := ⟨_, rfl⟩
      have hR2 := hR; rw [lenN_div 16 h2] at hR2
      rw [hR]
      by_cases h3 : 256 ≤ x / 65536
      · have h3' : (256 : Int) ≤ (x : Int) / 65536 := by omega
        have hy : 0 ≤ (x : Int) / 65536 / 256 ∧ (x : Int) / 65536 / 256 < 256 := by omega
        have hz := len8I hy
        have e : lenN (x / 2 ^ 16) = 8 + lenN ((x : Int) / 65536 / 256).toNat := by rw [lenN_div 8 h3]; rfl
        apply pure_of _ (d_math_bits_Len64 _ H) rfl
        rotate_left 2
        · simp (disch := first | with_reducible rfl | assumption | omega | rfl | (simp only [go_sem]; first | done | omega)) only [go_sem, ↓reduceIte, reduceCtorEq, Nat.reduceEqDiff, Nat.reduceAdd, Nat.reduceSub, Nat.reduceMul, Nat.reduceDiv, Nat.reduceMod, Nat.reduceLeDiff, Nat.reduceLT, Nat.reduceBEq, Int.reduceEq, Int.reduceBEq, Int.reduceBNe, Int.reduceLT, Int.reduceLE, Int.reduceAdd, Int.reduceSub, Int.reduceNeg, Int.reduceToNat, Int.reducePow, Nat.reducePow, Int.reduceMul, Int.reduceDiv, ↓s_math_bits_Len64, s16, s8, cu, ci, idx_tab ht hy, h1', h2', h3', hy, hz]
          have hE : (R : Int) = 24 + (lenN ((x : Int) / 65536 / 256).toNat : Int) := by rw [e] at hR2; omega
          rw [hE]
        · (repeat (first | exact Fr.refl _ | refine Fr.push ?_ _ | refine Fr.set ?_ _ _ (by intro h; first | omega | (simp only [go_sem] at h; omega))))
      · have h3' : ¬ (256 : Int) ≤ (x : Int) / 65536 := by omega
        have hy : 0 ≤ (x : Int) / 65536 ∧ (x : Int) / 65536 < 256 := by omega
        have hz := len8I hy
        have e : lenN (x / 2 ^ 16) = lenN ((x : Int) / 65536).toNat := by congr 1
        apply pure_of _ (d_math_bits_Len64 _ H) rfl
        rotate_left 2
        · simp (disch := first | with_reducible rfl | assumption | omega | rfl | (simp only [go_sem]; first | done | omega)) only [go_sem, ↓reduceIte, reduceCtorEq, Nat.reduceEqDiff, Nat.reduceAdd, Nat.reduceSub, Nat.reduceMul, Nat.reduceDiv, Nat.reduceMod, Nat.reduceLeDiff, Nat.reduceLT, Nat.reduceBEq, Int.reduceEq, Int.reduceBEq, Int.reduceBNe, Int.reduceLT, Int.reduceLE, Int.reduceAdd, Int.reduceSub, Int.reduceNeg, Int.reduceToNat, Int.reducePow, Nat.reducePow, Int.reduceMul, Int.reduceDiv, ↓s_math_bits_Len64, s16, s8, cu, ci, idx_tab ht hy, h1', h2', h3', hy, hz]
          have hE : (R : Int) = 16 + (lenN ((x : Int) / 65536).toNat : Int) := by rw [e] at hR2; omega
          rw [hE]
        · (repeat (first | exact Fr.refl _ | refine Fr.push ?_ _ | refine Fr.set ?_ _ _ (by intro h; first | omega | (simp only [go_sem] at h; omega))))
    · have h2' : ¬ (65536 : Int) ≤ (x : Int) := by omega
      by_cases h3 : 256 ≤ x
      · have h3' : (256 : Int) ≤ (x : Int) := by omega
        have hy : 0 ≤ (x : Int) / 256 ∧ (x : Int) / 256 < 256 := by omega
        have hz := len8I hy
        have e : lenN x = 8 + lenN ((x : Int) / 256).toNat := by rw [lenN_div 8 h3]; rfl
        apply pure_of _ (d_math_bits_Len64 _ H) rfl
        rotate_left 2
        · simp (disch := first | with_reducible rfl | assumption | omega | rfl | (simp only [go_sem]; first | done | omega)) only [go_sem, ↓reduceIte, reduceCtorEq, Nat.reduceEqDiff, Nat.reduceAdd, Nat.reduceSub, Nat.reduceMul, Nat.reduceDiv, Nat.reduceMod, Nat.reduceLeDiff, Nat.reduceLT, Nat.reduceBEq, Int.reduceEq, Int.reduceBEq, Int.reduceBNe, Int.reduceLT, Int.reduceLE, Int.reduceAdd, Int.reduceSub, Int.reduceNeg, Int.reduceToNat, Int.reducePow, Nat.reducePow, Int.reduceMul, Int.reduceDiv, ↓s_math_bits_Len64, s8, cu, ci, idx_tab ht hy, h1', h2', h3', hy, hz]
          have hE : ((lenN x : Nat) : Int) = 8 + (lenN ((x : Int) / 256).toNat : Int) := by rw [e]; omega
          rw [hE]
        · (repeat (first | exact Fr.refl _ | refine Fr.push ?_ _ | refine Fr.set ?_ _ _ (by intro h; first | omega | (simp only [go_sem] at h; omega))))
      · have h3' : ¬ (256 : Int) ≤ (x : Int) := by omega
        have hy : 0 ≤ (x : Int) ∧ (x : Int) < 256 := by omega
        have hz := len8I hy
        have e : lenN x = lenN (x : Int).toNat := by congr 1
        apply pure_of _ (d_math_bits_Len64 _ H) rfl
        rotate_left 2
        · simp (disch := first | with_reducible rfl | assumption | omega | rfl | (simp only [go_sem]; first | done | omega)) only [go_sem, ↓reduceIte, reduceCtorEq, Nat.reduceEqDiff, Nat.reduceAdd, Nat.reduceSub, Nat.reduceMul, Nat.reduceDiv, Nat.reduceMod, Nat.reduceLeDiff, Nat.reduceLT, Nat.reduceBEq, Int.reduceEq, Int.reduceBEq, Int.reduceBNe, Int.reduceLT, Int.reduceLE, Int.reduceAdd, Int.reduceSub, Int.reduceNeg, Int.reduceToNat, Int.reducePow, Nat.reducePow, Int.reduceMul, Int.reduceDiv, ↓s_math_bits_Len64, cu, ci, idx_tab ht hy, h1', h2', h3', hy, hz, Int.zero_add, Int.toNat_natCast]
          rfl
        · (repeat (first | exact Fr.refl _ | refine Fr.push ?_ _ | refine Fr.set ?_ _ _ (by intro h; first | omega | (simp only [go_sem] at h; omega))))

theorem q_Len (x : Nat) (hx : x < 2199023255552) (H : AHeap) : CC F.math_bits_Len [.int .u64 (x : Int)] H = some (.int .i64 (lenN x), H) := by
  apply pure_of _ (d_math_bits_Len _ H) rfl
  rotate_left 2
  · simp (disch := first | with_reducible rfl | assumption | omega | rfl | (simp only [go_sem]; first | done | omega)) only [go_sem, ↓reduceIte, reduceCtorEq, Nat.reduceEqDiff, Nat.reduceAdd, Nat.reduceSub, Nat.reduceMul, Nat.reduceDiv, Nat.reduceMod, Nat.reduceLeDiff, Nat.reduceLT, Nat.reduceBEq, Int.reduceEq, Int.reduceBEq, Int.reduceBNe, Int.reduceLT, Int.reduceLE, Int.reduceAdd, Int.reduceSub, Int.reduceNeg, Int.reduceToNat, Int.reducePow, Nat.reducePow, Int.reduceMul, Int.reduceDiv, ↓s_math_bits_Len, enterK_eq (q_Len64 x hx H)]
    rfl
  · (repeat (first | exact Fr.refl _ | refine Fr.push ?_ _ | refine Fr.set ?_ _ _ (by intro h; first | omega | (simp only [go_sem] at h; omega))))

theorem q_Bucket (x : Nat) (hx : x ≤ 1099511627776) (H : AHeap) : CC F.stats_Bucket [.int .i64 (x : Int)] H = some (.tuple ⟨[.int .i64 (lenN x), .int .i64 0]⟩, H) := by
  have h1 : ¬ (x : Int) < 0 := by omega
  have h2 : ¬ (1099511627776 : Int) < (x : Int) := by omega
  have cu : ∀ H, xconv Try.prog T.int T.uint (.int .i64 (x : Int)) H = some (.int .u64 (x : Int), H) := fun H => by rw [show xconv Try.prog T.int T.uint (.int .i64 (x : Int)) H = _ from xconv_int Try.underlying3 Try.underlying94, wrap_u64 (by omega)]
  apply pure_of _ (d_stats_Bucket _ H) rfl
  rotate_left 2
  · simp (disch := first | with_reducible rfl | assumption | omega | rfl | (simp only [go_sem]; first | done | omega)) only [go_sem, ↓reduceIte, reduceCtorEq, Nat.reduceEqDiff, Nat.reduceAdd, Nat.reduceSub, Nat.reduceMul, Nat.reduceDiv, Nat.reduceMod, Nat.reduceLeDiff, Nat.reduceLT, Nat.reduceBEq, Int.reduceEq, Int.reduceBEq, Int.reduceBNe, Int.reduceLT, Int.reduceLE, Int.reduceAdd, Int.reduceSub, Int.reduceNeg, Int.reduceToNat, Int.reducePow, Nat.reducePow, Int.reduceMul, Int.reduceDiv, ↓s_stats_Bucket, h1, h2, cu, enterK_eq (q_Len x (by omega) H)]
    rfl
  · (repeat (first | exact Fr.refl _ | refine Fr.push ?_ _ | refine Fr.set ?_ _ _ (by intro h; first | omega | (simp only [go_sem] at h; omega))))
theorem q_Bucket_bad (n : Int) (h : n < 0 ∨ 1099511627776 < n) (H : AHeap) : CC F.stats_Bucket [.int .i64 n] H = some (.tuple ⟨[.int .i64 0, .int .i64 2]⟩, H) := by
  by_cases h1 : n < 0
  · apply pure_of _ (d_stats_Bucket _ H) rfl
    rotate_left 2
    · simp (disch := first | with_reducible rfl | assumption | omega | rfl | (simp only [go_sem]; first | done | omega)) only [go_sem, ↓reduceIte, reduceCtorEq, Nat.reduceEqDiff, Nat.reduceAdd, Nat.reduceSub, Nat.reduceMul, Nat.reduceDiv, Nat.reduceMod, Nat.reduceLeDiff, Nat.reduceLT, Nat.reduceBEq, Int.reduceEq, Int.reduceBEq, Int.reduceBNe, Int.reduceLT, Int.reduceLE, Int.reduceAdd, Int.reduceSub, Int.reduceNeg, Int.reduceToNat, Int.reducePow, Nat.reducePow, Int.reduceMul, Int.reduceDiv, ↓s_stats_Bucket, h1]
      rfl
    · (repeat (first | exact Fr.refl _ | refine Fr.push ?_ _ | refine Fr.set ?_ _ _ (by intro h; first | omega | (simp only [go_sem] at h; omega))))
  · have h2 : 1099511627776 < n := by omega
    apply pure_of _ (d_stats_Bucket _ H) rfl
    rotate_left 2
    · simp (disch := first | with_reducible rfl | assumption | omega | rfl | (simp only [go_sem]; first | done | omega)) only [go_sem, ↓reduceIte, reduceCtorEq, Nat.reduceEqDiff, Nat.reduceAdd, Nat.reduceSub, Nat.reduceMul, Nat.reduceDiv, Nat.reduceMod, Nat.reduceLeDiff, Nat.reduceLT, Nat.reduceBEq, Int.reduceEq, Int.reduceBEq, Int.reduceBNe, Int.reduceLT, Int.reduceLE, Int.reduceAdd, Int.reduceSub, Int.reduceNeg, Int.reduceToNat, Int.reducePow, Nat.reducePow, Int.reduceMul, Int.reduceDiv, ↓s_stats_Bucket, h1, h2]
      rfl
    · (repeat (first | exact Fr.refl _ | refine Fr.push ?_ _ | refine Fr.set ?_ _ _ (by intro h; first | omega | (simp only [go_sem] at h; omega))))

def loN (b : Nat) : Nat := if b = 0 then 0 else 2 ^ (b - 1)
def hiN (b : Nat) : Nat := if b = 0 then 0 else min (2 ^ b - 1) 1099511627776

theorem pow41 {b : Nat} (h : b ≤ 41) : 2 ^ b ≤ 2199023255552 := Nat.pow_le_pow_right (by decide) h
theorem shl1 {b : Nat} (h : b ≤ 41) {ox oy : Operand} {i : Int} (hi : i = (b : Int)) : xbin Try.prog .shl T.int ox oy (.int .i64 1) (.int .i64 i) = some (.int .i64 ((2 ^ b : Nat) : Int)) := by
  subst hi
  have := pow41 h
  rw [shlP (by simp only [IntKind.bits]; omega)]
  have e : (1 : Int) * 2 ^ (b : Int).toNat = ((2 ^ b : Nat) : Int) := by rw [Int.one_mul, Int.toNat_natCast, Int.natCast_pow]; rfl
  rw [e]
  generalize 2 ^ b = q at *
  rw [wrap_i64 (by omega)]

theorem q_Bounds (b : Nat) (hb : b ≤ 41) (H : AHeap) : CC F.stats_Bounds [.int .i64 (b : Int)] H = some (.tuple ⟨[.int .i64 (loN b), .int .i64 (hiN b), .int .i64 0]⟩, H) := by
  have h1 : ¬ (b : Int) < 0 := by omega
  have h2 : ¬ (42 : Int) ≤ (b : Int) := by omega
  by_cases h0 : b = 0
  · subst h0
    apply pure_of _ (d_stats_Bounds _ H) rfl
    rotate_left 2
    · simp (disch := first | with_reducible rfl | assumption | omega | rfl | (simp only [go_sem]; first | done | omega)) only [go_sem, ↓reduceIte, reduceCtorEq, Nat.reduceEqDiff, Nat.reduceAdd, Nat.reduceSub, Nat.reduceMul, Nat.reduceDiv, Nat.reduceMod, Nat.reduceLeDiff, Nat.reduceLT, Nat.reduceBEq, Int.reduceEq, Int.reduceBEq, Int.reduceBNe, Int.reduceLT, Int.reduceLE, Int.reduceAdd, Int.reduceSub, Int.reduceNeg, Int.reduceToNat, Int.reducePow, Nat.reducePow, Int.reduceMul, Int.reduceDiv, ↓s_stats_Bounds, Int.natCast_zero, Int.lt_irrefl, decide_false]
      rfl
    · (repeat (first | exact Fr.refl _ | refine Fr.push ?_ _ | refine Fr.set ?_ _ _ (by intro h; first | omega | (simp only [go_sem] at h; omega))))
  · have h3 : ¬ (b : Int) = 0 := by omega
    have e1 := fun ox oy => shl1 (b := b - 1) (by omega) (ox := ox) (oy := oy) (i := (b : Int) - 1) (by omega)
    have e2 := fun ox oy => shl1 (b := b) hb (ox := ox) (oy := oy) rfl
    have p := pow41 hb
    have p0 := Nat.two_pow_pos b
    have hh : (hiN b : Int) = min (((2 ^ b : Nat) : Int) - 1) 1099511627776 := by unfold hiN; rw [if_neg h0]; omega
    have hl : (loN b : Int) = ((2 ^ (b - 1) : Nat) : Int) := by unfold loN; rw [if_neg h0]
    rw [hh, hl]
    generalize 2 ^ b = p2 at *
    apply pure_of _ (d_stats_Bounds _ H) rfl
    rotate_left 2
    · simp (disch := first | with_reducible rfl | assumption | omega | rfl | (simp only [go_sem]; first | done | omega)) only [go_sem, ↓reduceIte, reduceCtorEq, Nat.reduceEqDiff, Nat.reduceAdd, Nat.reduceSub, Nat.reduceMul, Nat.reduceDiv, Nat.reduceMod, Nat.reduceLeDiff, Nat.reduceLT, Nat.reduceBEq, Int.reduceEq, Int.reduceBEq, Int.reduceBNe, Int.reduceLT, Int.reduceLE, Int.reduceAdd, Int.reduceSub, Int.reduceNeg, Int.reduceToNat, Int.reducePow, Nat.reducePow, Int.reduceMul, Int.reduceDiv, ↓s_stats_Bounds, h1, h2, h3, e1, e2]
      rfl
    · (repeat (first | exact Fr.refl _ | refine Fr.push ?_ _ | refine Fr.set ?_ _ _ (by intro h; first | omega | (simp only [go_sem] at h; omega))))
theorem q_Bounds_bad (n : Int) (h : n < 0 ∨ 41 < n) (H : AHeap) : CC F.stats_Bounds [.int .i64 n] H = some (.tuple ⟨[.int .i64 0, .int .i64 0, .int .i64 2]⟩, H) := by
  by_cases h1 : n < 0
  · apply pure_of _ (d_stats_Bounds _ H) rfl
    rotate_left 2
    · simp (disch := first | with_reducible rfl | assumption | omega | rfl | (simp only [go_sem]; first | done | omega)) only [go_sem, ↓reduceIte, reduceCtorEq, Nat.reduceEqDiff, Nat.reduceAdd, Nat.reduceSub, Nat.reduceMul, Nat.reduceDiv, Nat.reduceMod, Nat.reduceLeDiff, Nat.reduceLT, Nat.reduceBEq, Int.reduceEq, Int.reduceBEq, Int.reduceBNe, Int.reduceLT, Int.reduceLE, Int.reduceAdd, Int.reduceSub, Int.reduceNeg, Int.reduceToNat, Int.reducePow, Nat.reducePow, Int.reduceMul, Int.reduceDiv, ↓s_stats_Bounds, h1]
      rfl
    · (repeat (first | exact Fr.refl _ | refine Fr.push ?_ _ | refine Fr.set ?_ _ _ (by intro h; first | omega | (simp only [go_sem] at h; omega))))
  · have h2 : 42 ≤ n := by omega
    apply pure_of _ (d_stats_Bounds _ H) rfl
    rotate_left 2
    · simp (disch := first | with_reducible rfl | assumption | omega | rfl | (simp only [go_sem]; first | done | omega)) only [go_sem, ↓reduceIte, reduceCtorEq, Nat.reduceEqDiff, Nat.reduceAdd, Nat.reduceSub, Nat.reduceMul, Nat.reduceDiv, Nat.reduceMod, Nat.reduceLeDiff, Nat.reduceLT, Nat.reduceBEq, Int.reduceEq, Int.reduceBEq, Int.reduceBNe, Int.reduceLT, Int.reduceLE, Int.reduceAdd, Int.reduceSub, Int.reduceNeg, Int.reduceToNat, Int.reducePow, Nat.reducePow, Int.reduceMul, Int.reduceDiv, ↓s_stats_Bounds, h1, h2]
      rfl
    · (repeat (first | exact Fr.refl _ | refine Fr.push ?_ _ | refine Fr.set ?_ _ _ (by intro h; first | omega | (simp only [go_sem] at h; omega))))

/-! ### the reference's -/
theorem l_rBounds (b : Nat) (hb : b ≤ 41) (H : AHeap) (k : K) : ∀ (d i n : Nat), i + d = b → 1 ≤ i → n * 2 ^ d ≤ 2199023255552 →
    l_ref26_Bounds_0 (.int .i64 (b : Int)) (.int .i64 (n : Int)) (.int .i64 (i : Int)) H (blkK [4] 0 k) = k .normal [(4, .int .i64 ((n * 2 ^ d : Nat) : Int))] H
  | 0, i, n, hi, h1, hn => by
    have h : ¬ (i : Int) < (b : Int) := by omega
    rw [r_ref26_Bounds_0]
    simp (disch := first | with_reducible rfl | assumption | omega | rfl | (simp only [go_sem]; first | done | omega)) only [go_sem, ↓reduceIte, reduceCtorEq, Nat.reduceEqDiff, Nat.reduceAdd, Nat.reduceSub, Nat.reduceMul, Nat.reduceDiv, Nat.reduceMod, Nat.reduceLeDiff, Nat.reduceLT, Nat.reduceBEq, Int.reduceEq, Int.reduceBEq, Int.reduceBNe, Int.reduceLT, Int.reduceLE, Int.reduceAdd, Int.reduceSub, Int.reduceNeg, Int.reduceToNat, Int.reducePow, Nat.reducePow, Int.reduceMul, Int.reduceDiv, ↓s_ref26_Bounds_b0, h, Nat.pow_zero, Nat.mul_one]
  | d + 1, i, n, hi, h1, hn => by
    have h : (i : Int) < (b : Int) := by omega
    have e : n * 2 ^ (d + 1) = 2 * n * 2 ^ d := by rw [Nat.pow_succ, Nat.mul_comm 2 n, Nat.mul_assoc, Nat.mul_comm 2]
    have hn2 : 2 * n ≤ 2199023255552 := Nat.le_trans (Nat.le_mul_of_pos_right _ (Nat.two_pow_pos d)) (by rw [← e]; exact hn)
    have ih := l_rBounds b hb H k d (i + 1) (2 * n) (by omega) (by omega) (by rw [← e]; exact hn)
    rw [← e] at ih
    rw [Int.natCast_add, Int.natCast_mul] at ih
    rw [r_ref26_Bounds_0]
    simp (disch := first | with_reducible rfl | assumption | omega | rfl | (simp only [go_sem]; first | done | omega)) only [go_sem, ↓reduceIte, reduceCtorEq, Nat.reduceEqDiff, Nat.reduceAdd, Nat.reduceSub, Nat.reduceMul, Nat.reduceDiv, Nat.reduceMod, Nat.reduceLeDiff, Nat.reduceLT, Nat.reduceBEq, Int.reduceEq, Int.reduceBEq, Int.reduceBNe, Int.reduceLT, Int.reduceLE, Int.reduceAdd, Int.reduceSub, Int.reduceNeg, Int.reduceToNat, Int.reducePow, Nat.reducePow, Int.reduceMul, Int.reduceDiv, ↓s_ref26_Bounds_b0, h]
    exact ih
theorem q_rBounds (b : Nat) (hb : b ≤ 41) (H : AHeap) : CC F.ref26_Bounds [.int .i64 (b : Int)] H = some (.tuple ⟨[.int .i64 (loN b), .int .i64 (hiN b)]⟩, H) := by
  by_cases h0 : b = 0
  · subst h0
    apply pure_of _ (d_ref26_Bounds _ H) rfl
    rotate_left 2
    · simp (disch := first | with_reducible rfl | assumption | omega | rfl | (simp only [go_sem]; first | done | omega)) only [go_sem, ↓reduceIte, reduceCtorEq, Nat.reduceEqDiff, Nat.reduceAdd, Nat.reduceSub, Nat.reduceMul, Nat.reduceDiv, Nat.reduceMod, Nat.reduceLeDiff, Nat.reduceLT, Nat.reduceBEq, Int.reduceEq, Int.reduceBEq, Int.reduceBNe, Int.reduceLT, Int.reduceLE, Int.reduceAdd, Int.reduceSub, Int.reduceNeg, Int.reduceToNat, Int.reducePow, Nat.reducePow, Int.reduceMul, Int.reduceDiv, ↓s_ref26_Bounds, Int.natCast_zero]
      rfl
    · (repeat (first | exact Fr.refl _ | refine Fr.push ?_ _ | refine Fr.set ?_ _ _ (by intro h; first | omega | (simp only [go_sem] at h; omega))))
  · have h3 : ¬ (b : Int) = 0 := by omega
    have p := pow41 (b := b - 1) (by omega)
    have hl := l_rBounds b hb H
    have hp : 2 ^ b = 2 * 2 ^ (b - 1) := by rw [← Nat.pow_succ']; congr 1; omega
    have hh : (hiN b : Int) = min (2 * ((2 ^ (b - 1) : Nat) : Int) - 1) 1099511627776 := by
      have := Nat.two_pow_pos (b - 1)
      unfold hiN
      rw [if_neg h0, hp]
      clear hl
      generalize 2 ^ (b - 1) = q at *
      omega
    have hl' : (loN b : Int) = ((2 ^ (b - 1) : Nat) : Int) := by unfold loN; rw [if_neg h0]
    have hlp := pow41 hb
    rw [hh, hl']
    have hL : ∀ k, l_ref26_Bounds_0 (.int .i64 (b : Int)) (.int .i64 1) (.int .i64 1) H (blkK [4] 0 k) = k .normal [(4, .int .i64 ((2 ^ (b - 1) : Nat) : Int))] H := fun k => by
      have := l_rBounds b hb H k (b - 1) 1 1 (by omega) (Nat.le_refl _) (by omega)
      rw [Nat.one_mul] at this
      exact this
    generalize 2 ^ (b - 1) = p2 at *
    apply pure_of _ (d_ref26_Bounds _ H) rfl
    rotate_left 2
    · simp (disch := first | with_reducible rfl | assumption | omega | rfl | (simp only [go_sem]; first | done | omega)) only [go_sem, ↓reduceIte, reduceCtorEq, Nat.reduceEqDiff, Nat.reduceAdd, Nat.reduceSub, Nat.reduceMul, Nat.reduceDiv, Nat.reduceMod, Nat.reduceLeDiff, Nat.reduceLT, Nat.reduceBEq, Int.reduceEq, Int.reduceBEq, Int.reduceBNe, Int.reduceLT, Int.reduceLE, Int.reduceAdd, Int.reduceSub, Int.reduceNeg, Int.reduceToNat, Int.reducePow, Nat.reducePow, Int.reduceMul, Int.reduceDiv, ↓s_ref26_Bounds, h3, hL]
      rfl
    · (repeat (first | exact Fr.refl _ | refine Fr.push ?_ _ | refine Fr.set ?_ _ _ (by intro h; first | omega | (simp only [go_sem] at h; omega))))

theorem in_bucket {x b : Nat} (hx : x ≤ 1099511627776) (hb : b ≤ 41) : (loN b ≤ x ∧ x ≤ hiN b) ↔ lenN x = b := by
  unfold loN hiN
  by_cases h0 : b = 0
  · subst h0
    simp only [if_true]
    constructor
    · intro h
      have : x = 0 := by omega
      subst this; rfl
    · intro h
      unfold lenN at h
      by_cases hx0 : x = 0
      · omega
      · rw [if_neg hx0] at h; omega
  · rw [if_neg h0, if_neg h0]
    obtain ⟨c, rfl⟩ : ∃ c, b = c + 1 := ⟨b - 1, by omega⟩
    rw [Nat.add_sub_cancel]
    have hp := Nat.two_pow_pos (c + 1)
    constructor
    · rintro ⟨h1, h2⟩
      exact lenN_of h1 (by omega)
    · intro h
      by_cases hx0 : x = 0
      · subst hx0; cases h
      · obtain ⟨c', e, h1, h2⟩ := lenN_spec hx0
        obtain rfl : c = c' := by omega
        exact ⟨h1, by omega⟩
theorem lenN_le {x : Nat} (hx : x ≤ 1099511627776) : lenN x ≤ 41 := by
  by_cases hx0 : x = 0
  · subst hx0; decide
  · obtain ⟨c, e, h1, h2⟩ := lenN_spec hx0
    have : c < 41 := by
      by_cases h : c < 41
      · exact h
      · exfalso
        have := Nat.pow_le_pow_right (n := 2) (by decide) (show 41 ≤ c by omega)
        omega
    omega

theorem l_rBucket (x : Nat) (hx : x ≤ 1099511627776) (H : AHeap) (k : K) : ∀ (d b : Nat), b + d = lenN x →
    l_ref26_Bucket_0 (.int .i64 (x : Int)) (.int .i64 (b : Int)) H (blkK [] 0 (seqK (fun _ h2 => k .ret [(2, .int .i64 (-1))] h2) k)) = k .ret [(2, .int .i64 (lenN x))] H
  | 0, b, hd => by
    have hb : b ≤ 41 := by have := lenN_le hx; omega
    have h : (b : Int) < 42 := by omega
    have hin := (in_bucket hx hb).2 (by omega)
    have h1 : ((loN b : Nat) : Int) ≤ (x : Int) := by omega
    have h2 : (x : Int) ≤ ((hiN b : Nat) : Int) := by omega
    have e : lenN x = b := by omega
    rw [r_ref26_Bucket_0, e]
    simp (disch := first | with_reducible rfl | assumption | omega | rfl | (simp only [go_sem]; first | done | omega)) only [go_sem, ↓reduceIte, reduceCtorEq, Nat.reduceEqDiff, Nat.reduceAdd, Nat.reduceSub, Nat.reduceMul, Nat.reduceDiv, Nat.reduceMod, Nat.reduceLeDiff, Nat.reduceLT, Nat.reduceBEq, Int.reduceEq, Int.reduceBEq, Int.reduceBNe, Int.reduceLT, Int.reduceLE, Int.reduceAdd, Int.reduceSub, Int.reduceNeg, Int.reduceToNat, Int.reducePow, Nat.reducePow, Int.reduceMul, Int.reduceDiv, ↓s_ref26_Bucket_b0, h, enterK_eq (q_rBounds b hb H), h1, h2]
  | d + 1, b, hd => by
    have hb : b ≤ 41 := by have := lenN_le hx; omega
    have h : (b : Int) < 42 := by omega
    have ih := l_rBucket x hx H k d (b + 1) (by omega)
    rw [Int.natCast_add] at ih
    have hin : ¬ (loN b ≤ x ∧ x ≤ hiN b) := fun h => by have := (in_bucket hx hb).1 h; omega
    rw [r_ref26_Bucket_0]
    by_cases h1 : loN b ≤ x
    · have h1' : ((loN b : Nat) : Int) ≤ (x : Int) := by omega
      have h2' : ¬ (x : Int) ≤ ((hiN b : Nat) : Int) := by omega
      simp (disch := first | with_reducible rfl | assumption | omega | rfl | (simp only [go_sem]; first | done | omega)) only [go_sem, ↓reduceIte, reduceCtorEq, Nat.reduceEqDiff, Nat.reduceAdd, Nat.reduceSub, Nat.reduceMul, Nat.reduceDiv, Nat.reduceMod, Nat.reduceLeDiff, Nat.reduceLT, Nat.reduceBEq, Int.reduceEq, Int.reduceBEq, Int.reduceBNe, Int.reduceLT, Int.reduceLE, Int.reduceAdd, Int.reduceSub, Int.reduceNeg, Int.reduceToNat, Int.reducePow, Nat.reducePow, Int.reduceMul, Int.reduceDiv, ↓s_ref26_Bucket_b0, h, enterK_eq (q_rBounds b hb H), h1', h2']
      exact ih
    · have h1' : ¬ ((loN b : Nat) : Int) ≤ (x : Int) := by omega
      simp (disch := first | with_reducible rfl | assumption | omega | rfl | (simp only [go_sem]; first | done | omega)) only [go_sem, ↓reduceIte, reduceCtorEq, Nat.reduceEqDiff, Nat.reduceAdd, Nat.reduceSub, Nat.reduceMul, Nat.reduceDiv, Nat.reduceMod, Nat.reduceLeDiff, Nat.reduceLT, Nat.reduceBEq, Int.reduceEq, Int.reduceBEq, Int.reduceBNe, Int.reduceLT, Int.reduceLE, Int.reduceAdd, Int.reduceSub, Int.reduceNeg, Int.reduceToNat, Int.reducePow, Nat.reducePow, Int.reduceMul, Int.reduceDiv, ↓s_ref26_Bucket_b0, h, enterK_eq (q_rBounds b hb H), h1']
      exact ih
theorem q_rBucket (x : Nat) (hx : x ≤ 1099511627776) (H : AHeap) : CC F.ref26_Bucket [.int .i64 (x : Int)] H = some (.int .i64 (lenN x), H) := by
  apply pure_of _ (d_ref26_Bucket _ H) rfl
  rotate_left 2
  · have := l_rBucket x hx H (endK Try.prog [.tmp 2]) (lenN x) 0 (by omega)
    simp (disch := first | with_reducible rfl | assumption | omega | rfl | (simp only [go_sem]; first | done | omega)) only [go_sem, ↓reduceIte, reduceCtorEq, Nat.reduceEqDiff, Nat.reduceAdd, Nat.reduceSub, Nat.reduceMul, Nat.reduceDiv, Nat.reduceMod, Nat.reduceLeDiff, Nat.reduceLT, Nat.reduceBEq, Int.reduceEq, Int.reduceBEq, Int.reduceBNe, Int.reduceLT, Int.reduceLE, Int.reduceAdd, Int.reduceSub, Int.reduceNeg, Int.reduceToNat, Int.reducePow, Nat.reducePow, Int.reduceMul, Int.reduceDiv, ↓s_ref26_Bucket]
    exact this
  · (repeat (first | exact Fr.refl _ | refine Fr.push ?_ _ | refine Fr.set ?_ _ _ (by intro h; first | omega | (simp only [go_sem] at h; omega))))

end Go.Proofs.Ytplblfcofplcmaa

/-
  The seat's functions as terms over the engine's combinators (a program of ours printed it).
  Conditions: none. By an AI agent.
-/
set_option linter.unusedVariables false
namespace Go.Proofs.Ytplblfcofplcmaa
open Go Eng

/-! ticketline.ticketlinelaw26.StatsBuckets -/

noncomputable def s_law_StatsBuckets (mg : GT) (mc : CT) (ms : ST) (P : Program) (C : CallF) (a0 : Value) (a1 : Value) (H : AHeap) (K0 : K) : Res :=
bareK (xbin P .lss T.int (.tmp 7) (.const (.int .i64 0)) a0 (.int .i64 0)) H fun t8 h1 =>
mg t8 false (fun o1 => o1 a0 h1) h1 fun t10 h2 =>
mg t8 false (fun o2 => bareK (xbin P .gtr T.int (.tmp 10) (.const (.int .i64 1099511627776)) t10 (.int .i64 1099511627776)) h2 o2) h2 fun t11 h3 =>
pickK t8 (.bool true) t11 fun t12 =>
mc t12 (fun k3 => enterK C F.law_bucket [a0, (.int .i64 0), (.int .i64 2)] h3 fun t14 h4 =>
bareK (xun P .not t14) h4 fun t15 h5 =>
mc t15 (fun k4 => k4 .ret [(4, (.bool false))] h5) (fun k4 =>
k4 .normal [(1, a1)] h5) (afterK [1] k3)) (fun k3 =>
enterK C F.ref26_Bucket [a0] h3 fun t18 h6 =>
enterK C F.law_bucket [a0, t18, (.int .i64 0)] h6 fun t19 h7 =>
bareK (xun P .not t19) h7 fun t20 h8 =>
mc t20 (fun k5 => k5 .ret [(4, (.bool false))] h8) (fun k5 =>
k5 .normal [(1, a1)] h8) (afterK [1] k3)) (seqK (fun tT h9 =>
bareK (xbin P .lss T.int (.tmp 21) (.const (.int .i64 0)) (get tT 1) (.int .i64 0)) h9 fun t22 h10 =>
mg t22 false (fun o6 => o6 (get tT 1) h10) h10 fun t24 h11 =>
mg t22 false (fun o7 => bareK (xbin P .gtr T.int (.tmp 24) (.const (.int .i64 41)) t24 (.int .i64 41)) h11 o7) h11 fun t25 h12 =>
pickK t22 (.bool true) t25 fun t26 =>
mc t26 (fun k8 => enterK C F.law_bounds [(get tT 1), (.int .i64 0), (.int .i64 0), (.int .i64 2)] h12 fun t28 h13 =>
mg t28 true (fun o9 => enterK C F.law_known [] h13 o9) h13 fun t30 h14 =>
pickK t28 t30 (.bool false) fun t31 =>
k8 .ret [(4, t31)] h14) (fun k8 =>
k8 .normal [(1, (get tT 1))] h12) (seqK (fun tT_1 h15 =>
enterK C F.ref26_Bounds [(get tT_1 1)] h15 fun t34 h16 =>
bareK (xextract t34 0) h16 fun t35 h17 =>
bareK (xextract t34 1) h17 fun t36 h18 =>
enterK C F.law_bounds [(get tT_1 1), t35, t36, (.int .i64 0)] h18 fun t40 h19 =>
mg t40 true (fun o10 => enterK C F.law_known [] h19 o10) h19 fun t42 h20 =>
pickK t40 t42 (.bool false) fun t43 =>
K0 .ret [(4, t43)] h20) K0)) K0)

theorem s_law_StatsBuckets_eq (M : CombL) (C : CallF) (LP : LoopH) (a0 : Value) (a1 : Value) (H : AHeap) : dBodyL M Try.prog hints C LP F.law_StatsBuckets [a0, a1] H = s_law_StatsBuckets M.b.g M.c M.s Try.prog C a0 a1 H (endK Try.prog [.tmp 4]) := by kernel_rfl

end Go.Proofs.Ytplblfcofplcmaa

/-
  The equations of the seat's functions over calls in the limit (a program of ours printed it).
  Conditions: none. By an AI agent.
-/
set_option linter.unusedVariables false
namespace Go.Proofs.Ytplblfcofplcmaa
open Go Eng



theorem d_law_StatsBuckets (a0 : Value) (a1 : Value) (H : AHeap) {r : Value × AHeap} (h : s_law_StatsBuckets guardK condL shareL Try.prog CC a0 a1 H (endK Try.prog [.tmp 4]) = some r) : CC F.law_StatsBuckets [a0, a1] H = some (tidy H r) := D_body (by kernel_rfl) ((s_law_StatsBuckets_eq stdL CC limLP a0 a1 H).trans (Eq.trans (show s_law_StatsBuckets stdL.b.g stdL.c stdL.s Try.prog CC a0 a1 H (endK Try.prog [.tmp 4]) = s_law_StatsBuckets guardK condL shareL Try.prog CC a0 a1 H (endK Try.prog [.tmp 4]) by kernel_rfl) h))

end Go.Proofs.Ytplblfcofplcmaa

/-
  Chapter 26: the law StatsBuckets runs to true.
  Conditions: none. By an AI agent.
-/
set_option maxRecDepth 10000
set_option linter.unusedSimpArgs false
set_option linter.unusedVariables false
namespace Go.Proofs.Ytplblfcofplcmaa
open Go Eng

theorem k_known (H : AHeap) : CC F.law_known [] H = some (.bool true, H) := D_prim (show prims1 F.law_known = some trueP by kernel_rfl) rfl
@[go_sem, go_sem ↓] theorem e_known {H : AHeap} {k : Value → AHeap → Res} : enterK CC F.law_known [] H k = k (.bool true) H := enterK_eq (k_known H)

theorem q_lbucket {n w e : Int} {H : AHeap} (h : CC F.stats_Bucket [.int .i64 n] H = some (.tuple ⟨[.int .i64 w, .int .i64 e]⟩, H)) : CC F.law_bucket [.int .i64 n, .int .i64 w, .int .i64 e] H = some (.bool true, H) := by
  apply pure_of _ (d_law_bucket _ _ _ H) rfl
  rotate_left 2
  · simp (disch := first | with_reducible rfl | assumption | omega | rfl | (simp only [go_sem]; first | done | omega)) only [go_sem, ↓reduceIte, reduceCtorEq, Nat.reduceEqDiff, Nat.reduceAdd, Nat.reduceSub, Nat.reduceMul, Nat.reduceDiv, Nat.reduceMod, Nat.reduceLeDiff, Nat.reduceLT, Nat.reduceBEq, Int.reduceEq, Int.reduceBEq, Int.reduceBNe, Int.reduceLT, Int.reduceLE, Int.reduceAdd, Int.reduceSub, Int.reduceNeg, Int.reduceToNat, Int.reducePow, Nat.reducePow, Int.reduceMul, Int.reduceDiv, ↓s_law_bucket, ↓enterK_eq h, enterK_eq h]
    rfl
  · (repeat (first | exact Fr.refl _ | refine Fr.push ?_ _ | refine Fr.set ?_ _ _ (by intro h; first | omega | (simp only [go_sem] at h; omega))))
theorem q_lbounds {n w w2 e : Int} {H : AHeap} (h : CC F.stats_Bounds [.int .i64 n] H = some (.tuple ⟨[.int .i64 w, .int .i64 w2, .int .i64 e]⟩, H)) : CC F.law_bounds [.int .i64 n, .int .i64 w, .int .i64 w2, .int .i64 e] H = some (.bool true, H) := by
  apply pure_of _ (d_law_bounds _ _ _ _ H) rfl
  rotate_left 2
  · simp (disch := first | with_reducible rfl | assumption | omega | rfl | (simp only [go_sem]; first | done | omega)) only [go_sem, ↓reduceIte, reduceCtorEq, Nat.reduceEqDiff, Nat.reduceAdd, Nat.reduceSub, Nat.reduceMul, Nat.reduceDiv, Nat.reduceMod, Nat.reduceLeDiff, Nat.reduceLT, Nat.reduceBEq, Int.reduceEq, Int.reduceBEq, Int.reduceBNe, Int.reduceLT, Int.reduceLE, Int.reduceAdd, Int.reduceSub, Int.reduceNeg, Int.reduceToNat, Int.reducePow, Nat.reducePow, Int.reduceMul, Int.reduceDiv, ↓s_law_bounds, ↓enterK_eq h, enterK_eq h]
    rfl
  · (repeat (first | exact Fr.refl _ | refine Fr.push ?_ _ | refine Fr.set ?_ _ _ (by intro h; first | omega | (simp only [go_sem] at h; omega))))

theorem q_StatsBuckets (n b : Int) (H : AHeap) : CC F.law_StatsBuckets [.int .i64 n, .int .i64 b] H = some (.bool true, H) := by
  have hB : ∀ (H : AHeap), b < 0 ∨ 41 < b → CC F.law_bounds [.int .i64 b, .int .i64 0, .int .i64 0, .int .i64 2] H = some (.bool true, H) := fun H h => q_lbounds (q_Bounds_bad b h H)
  have hG : ∀ (c : Nat) (H : AHeap), c ≤ 41 → b = (c : Int) → CC F.law_bounds [.int .i64 (c : Int), .int .i64 (loN c), .int .i64 (hiN c), .int .i64 0] H = some (.bool true, H) := fun c H h _ => q_lbounds (q_Bounds c h H)
  by_cases h1 : n < 0
  · have e1 := q_lbucket (q_Bucket_bad n (.inl h1) H)
    by_cases h3 : b < 0
    · apply pure_of _ (d_law_StatsBuckets _ _ H) rfl
      rotate_left 2
      · simp (disch := first | with_reducible rfl | assumption | omega | rfl | (simp only [go_sem]; first | done | omega)) only [go_sem, ↓reduceIte, reduceCtorEq, Nat.reduceEqDiff, Nat.reduceAdd, Nat.reduceSub, Nat.reduceMul, Nat.reduceDiv, Nat.reduceMod, Nat.reduceLeDiff, Nat.reduceLT, Nat.reduceBEq, Int.reduceEq, Int.reduceBEq, Int.reduceBNe, Int.reduceLT, Int.reduceLE, Int.reduceAdd, Int.reduceSub, Int.reduceNeg, Int.reduceToNat, Int.reducePow, Nat.reducePow, Int.reduceMul, Int.reduceDiv, ↓s_law_StatsBuckets, h1, h3, ↓enterK_eq e1, enterK_eq e1, enterK_eq (hB H (.inl h3))]
        rfl
      · (repeat (first | exact Fr.refl _ | refine Fr.push ?_ _ | refine Fr.set ?_ _ _ (by intro h; first | omega | (simp only [go_sem] at h; omega))))
    · by_cases h4 : 41 < b
      · apply pure_of _ (d_law_StatsBuckets _ _ H) rfl
        rotate_left 2
        · simp (disch := first | with_reducible rfl | assumption | omega | rfl | (simp only [go_sem]; first | done | omega)) only [go_sem, ↓reduceIte, reduceCtorEq, Nat.reduceEqDiff, Nat.reduceAdd, Nat.reduceSub, Nat.reduceMul, Nat.reduceDiv, Nat.reduceMod, Nat.reduceLeDiff, Nat.reduceLT, Nat.reduceBEq, Int.reduceEq, Int.reduceBEq, Int.reduceBNe, Int.reduceLT, Int.reduceLE, Int.reduceAdd, Int.reduceSub, Int.reduceNeg, Int.reduceToNat, Int.reducePow, Nat.reducePow, Int.reduceMul, Int.reduceDiv, ↓s_law_StatsBuckets, h1, h3, h4, ↓enterK_eq e1, enterK_eq e1, enterK_eq (hB H (.inr h4))]
          rfl
        · (repeat (first | exact Fr.refl _ | refine Fr.push ?_ _ | refine Fr.set ?_ _ _ (by intro h; first | omega | (simp only [go_sem] at h; omega))))
      · obtain ⟨c, rfl⟩ : ∃ c : Nat, b = (c : Int) := ⟨b.toNat, by omega⟩
        apply pure_of _ (d_law_StatsBuckets _ _ H) rfl
        rotate_left 2
        · simp (disch := first | with_reducible rfl | assumption | omega | rfl | (simp only [go_sem]; first | done | omega)) only [go_sem, ↓reduceIte, reduceCtorEq, Nat.reduceEqDiff, Nat.reduceAdd, Nat.reduceSub, Nat.reduceMul, Nat.reduceDiv, Nat.reduceMod, Nat.reduceLeDiff, Nat.reduceLT, Nat.reduceBEq, Int.reduceEq, Int.reduceBEq, Int.reduceBNe, Int.reduceLT, Int.reduceLE, Int.reduceAdd, Int.reduceSub, Int.reduceNeg, Int.reduceToNat, Int.reducePow, Nat.reducePow, Int.reduceMul, Int.reduceDiv, ↓s_law_StatsBuckets, h1, h3, h4, ↓enterK_eq e1, enterK_eq e1, enterK_eq (q_rBounds c (by omega) H), enterK_eq (hG c H (by omega) rfl)]
          rfl
        · (repeat (first | exact Fr.refl _ | refine Fr.push ?_ _ | refine Fr.set ?_ _ _ (by intro h; first | omega | (simp only [go_sem] at h; omega))))
  · by_cases h2 : 1099511627776 < n
    · have e1 := q_lbucket (q_Bucket_bad n (.inr h2) H)
      by_cases h3 : b < 0
      · apply pure_of _ (d_law_StatsBuckets _ _ H) rfl
        rotate_left 2
        · simp (disch := first | with_reducible rfl | assumption | omega | rfl | (simp only [go_sem]; first | done | omega)) only [go_sem, ↓reduceIte, reduceCtorEq, Nat.reduceEqDiff, Nat.reduceAdd, Nat.reduceSub, Nat.reduceMul, Nat.reduceDiv, Nat.reduceMod, Nat.reduceLeDiff, Nat.reduceLT, Nat.reduceBEq, Int.reduceEq, Int.reduceBEq, Int.reduceBNe, Int.reduceLT, Int.reduceLE, Int.reduceAdd, Int.reduceSub, Int.reduceNeg, Int.reduceToNat, Int.reducePow, Nat.reducePow, Int.reduceMul, Int.reduceDiv, ↓s_law_StatsBuckets, h1, h2, h3, ↓enterK_eq e1, enterK_eq e1, enterK_eq (hB H (.inl h3))]
          rfl
        · (repeat (first | exact Fr.refl _ | refine Fr.push ?_ _ | refine Fr.set ?_ _ _ (by intro h; first | omega | (simp only [go_sem] at h; omega))))
      · by_cases h4 : 41 < b
        · apply pure_of _ (d_law_StatsBuckets _ _ H) rfl
          rotate_left 2
          · simp (disch := first | with_reducible rfl | assumption | omega | rfl | (simp only [go_sem]; first | done | omega)) only [go_sem, ↓reduceIte, reduceCtorEq, Nat.reduceEqDiff, Nat.reduceAdd, Nat.reduceSub, Nat.reduceMul, Nat.reduceDiv, Nat.reduceMod, Nat.reduceLeDiff, Nat.reduceLT, Nat.reduceBEq, Int.reduceEq, Int.reduceBEq, Int.reduceBNe, Int.reduceLT, Int.reduceLE, Int.reduceAdd, Int.reduceSub, Int.reduceNeg, Int.reduceToNat, Int.reducePow, Nat.reducePow, Int.reduceMul, Int.reduceDiv, ↓s_law_StatsBuckets, h1, h2, h3, h4, ↓enterK_eq e1, enterK_eq e1, enterK_eq (hB H (.inr h4))]
            rfl
          · (repeat (first | exact Fr.refl _ | refine Fr.push ?_ _ | refine Fr.set ?_ _ _ (by intro h; first | omega | (simp only [go_sem] at h; omega))))
        · obtain ⟨c, rfl⟩ : ∃ c : Nat, b = (c : Int) := ⟨b.toNat, by omega⟩
          apply pure_of _ (d_law_StatsBuckets _ _ H) rfl
          rotate_left 2
          · simp (disch := first | with_reducible rfl | assumption | omega | rfl | (simp only [go_sem]; first | done | omega)) only [go_sem, ↓reduceIte, reduceCtorEq, Nat.reduceEqDiff, Nat.reduceAdd, Nat.reduceSub, Nat.reduceMul, Nat.reduceDiv, Nat.reduceMod, Nat.reduceLeDiff, Nat.reduceLT, Nat.reduceBEq, Int.reduceEq, Int.reduceBEq, Int.reduceBNe, Int.reduceLT, Int.reduceLE, Int.reduceAdd, Int.reduceSub, Int.reduceNeg, Int.reduceToNat, Int.reducePow, Nat.reducePow, Int.reduceMul, Int.reduceDiv, ↓s_law_StatsBuckets, h1, h2, h3, h4, ↓enterK_eq e1, enterK_eq e1, enterK_eq (q_rBounds c (by omega) H), enterK_eq (hG c H (by omega) rfl)]
            rfl
          · (repeat (first | exact Fr.refl _ | refine Fr.push ?_ _ | refine Fr.set ?_ _ _ (by intro h; first | omega | (simp only [go_sem] at h; omega))))
    · obtain ⟨x, rfl⟩ : ∃ x : Nat, n = (x : Int) := ⟨n.toNat, by omega⟩
      have e0 := q_rBucket x (by omega) H
      have e1 := q_lbucket (q_Bucket x (by omega) H)
      by_cases h3 : b < 0
      · apply pure_of _ (d_law_StatsBuckets _ _ H) rfl
        rotate_left 2
        · simp (disch := first | with_reducible rfl | assumption | omega | rfl | (simp only [go_sem]; first | done | omega)) only [go_sem, ↓reduceIte, reduceCtorEq, Nat.reduceEqDiff, Nat.reduceAdd, Nat.reduceSub, Nat.reduceMul, Nat.reduceDiv, Nat.reduceMod, Nat.reduceLeDiff, Nat.reduceLT, Nat.reduceBEq, Int.reduceEq, Int.reduceBEq, Int.reduceBNe, Int.reduceLT, Int.reduceLE, Int.reduceAdd, Int.reduceSub, Int.reduceNeg, Int.reduceToNat, Int.reducePow, Nat.reducePow, Int.reduceMul, Int.reduceDiv, ↓s_law_StatsBuckets, h1, h2, h3, ↓enterK_eq e0, enterK_eq e0, ↓enterK_eq e1, enterK_eq e1, enterK_eq (hB H (.inl h3))]
          rfl
        · (repeat (first | exact Fr.refl _ | refine Fr.push ?_ _ | refine Fr.set ?_ _ _ (by intro h; first | omega | (simp only [go_sem] at h; omega))))
      · by_cases h4 : 41 < b
        · apply pure_of _ (d_law_StatsBuckets _ _ H) rfl
          rotate_left 2
          · simp (disch := first | with_reducible rfl | assumption | omega | rfl | (simp only [go_sem]; first | done | omega)) only [go_sem, ↓reduceIte, reduceCtorEq, Nat.reduceEqDiff, Nat.reduceAdd, Nat.reduceSub, Nat.reduceMul, Nat.reduceDiv, Nat.reduceMod, Nat.reduceLeDiff, Nat.reduceLT, Nat.reduceBEq, Int.reduceEq, Int.reduceBEq, Int.reduceBNe, Int.reduceLT, Int.reduceLE, Int.reduceAdd, Int.reduceSub, Int.reduceNeg, Int.reduceToNat, Int.reducePow, Nat.reducePow, Int.reduceMul, Int.reduceDiv, ↓s_law_StatsBuckets, h1, h2, h3, h4, ↓enterK_eq e0, enterK_eq e0, ↓enterK_eq e1, enterK_eq e1, enterK_eq (hB H (.inr h4))]
            rfl
          · (repeat (first | exact Fr.refl _ | refine Fr.push ?_ _ | refine Fr.set ?_ _ _ (by intro h; first | omega | (simp only [go_sem] at h; omega))))
        · obtain ⟨c, rfl⟩ : ∃ c : Nat, b = (c : Int) := ⟨b.toNat, by omega⟩
          apply pure_of _ (d_law_StatsBuckets _ _ H) rfl
          rotate_left 2
          · simp (disch := first | with_reducible rfl | assumption | omega | rfl | (simp only [go_sem]; first | done | omega)) only [go_sem, ↓reduceIte, reduceCtorEq, Nat.reduceEqDiff, Nat.reduceAdd, Nat.reduceSub, Nat.reduceMul, Nat.reduceDiv, Nat.reduceMod, Nat.reduceLeDiff, Nat.reduceLT, Nat.reduceBEq, Int.reduceEq, Int.reduceBEq, Int.reduceBNe, Int.reduceLT, Int.reduceLE, Int.reduceAdd, Int.reduceSub, Int.reduceNeg, Int.reduceToNat, Int.reducePow, Nat.reducePow, Int.reduceMul, Int.reduceDiv, ↓s_law_StatsBuckets, h1, h2, h3, h4, ↓enterK_eq e0, enterK_eq e0, ↓enterK_eq e1, enterK_eq e1, enterK_eq (q_rBounds c (by omega) H), enterK_eq (hG c H (by omega) rfl)]
            rfl
          · (repeat (first | exact Fr.refl _ | refine Fr.push ?_ _ | refine Fr.set ?_ _ _ (by intro h; first | omega | (simp only [go_sem] at h; omega))))

theorem run_StatsBuckets (a b : Int) (_ : (Lit.int .i64 a).wf = true) (_ : (Lit.int .i64 b).wf = true) : ∃ k H', dCall Try.prog prims1 hints k F.law_StatsBuckets [.int .i64 a, .int .i64 b] H0 = some (.bool true, H') := by
  obtain ⟨k, h⟩ := D_run (q_StatsBuckets a b H0)
  exact ⟨k, _, h⟩

end Go.Proofs.Ytplblfcofplcmaa

/-
  The engine, part 35: arrays of numbers: equality, elements.
  Conditions: none. By an AI agent.
-/
namespace Go.Proofs.Ytplblfcofplcmaa.Eng
open Go
set_option linter.unusedVariables false
set_option linter.unusedSimpArgs false
variable {P : Program} {H : AHeap}

theorem pv_eqArr {d : Nat} {t e : TypeId} {n : Nat} {q : IntKind} {xs ys : Array Value} (f g : Nat → Int) (ht : P.underlying t = some (.array n e)) (he : P.underlying e = some (.int q)) (hs : sizeQ P e = some 1)
    (hx : ∀ i, i < n → xs[i]? = some (.int q (f i))) (hy : ∀ i, i < n → ys[i]? = some (.int q (g i))) :
    pv P (Op.equalIn (d + 2) t (.agg xs) (.agg ys)) = some ((List.range n).all fun i => decide (f i = g i)) := by
  have hs' : pv P (sizeOf e) = some 1 := by
    unfold sizeQ at hs
    obtain ⟨i, h1, h2⟩ := Option.map_eq_some_iff.1 hs
    unfold sizeOf typeInfo
    simp only [pv_bind', pv_program, Option.bind_some]
    rw [h1]
    simp [pv_pure, h2]
  rw [Op.equalIn]
  simp only [pv_bind', pv_und ht, pv_program, Option.bind_some, hs']
  simp only [Std.Legacy.Range.forIn_eq_forIn_range', Std.Legacy.Range.size]
  have hf : ∀ i, fitC P e (.int q (f i)) (.int q (g i)) = true := fun i => by unfold fitC; rw [he]; simp
  obtain ⟨body, hbody⟩ : ∃ body : Nat → Option Bool × Unit → Sem (ForInStep (Option Bool × Unit)), body = fun i __s => (do
      let a ← part e xs (i * 1)
      let b ← part e ys (i * 1)
      let c ← Op.equalIn (d + 1) e a b
      if (!c) = true then pure (ForInStep.done (some false, ())) else pure (ForInStep.yield (none, ()))) := ⟨_, rfl⟩
  have hb : ∀ i, i < n → pv P (body i (none, ())) = some (if f i = g i then ForInStep.yield (none, ()) else ForInStep.done (some false, ())) := fun i hi => by
    rw [hbody]
    simp only [pv_bind', Nat.mul_one, pv_part (hf i) (hx i hi), pv_part (v := .int q (g i)) (hf i) (hy i hi), Option.bind_some, pv_cell (hf i), ceq, pv_ite, pv_pure]
    by_cases h : f i = g i <;> simp [h]
  have hl : ∀ L : List Nat, (∀ i ∈ L, i < n) → pv P (forIn L (none, ()) body) = some (if (L.all fun i => decide (f i = g i)) = true then (none, ()) else (some false, ())) := by
    intro L
    induction L with
    | nil => intro _; simp [pv_pure]
    | cons i L ih =>
      intro h
      rw [List.forIn_cons, pv_bind', hb i (h i (by simp)), Option.bind_some]
      by_cases hfg : f i = g i
      · rw [if_pos hfg]
        simp only [List.all_cons, hfg, decide_true, Bool.true_and]
        exact ih fun j hj => h j (by simp [hj])
      · rw [if_neg hfg]
        simp only [List.all_cons, hfg, decide_false, Bool.false_and, pv_pure, Bool.false_eq_true, if_false]
  rw [← hbody]
  have e0 : List.range' 0 ((n - 0 + 1 - 1) / 1) = List.range n := by rw [List.range_eq_range']; congr 1; omega
  rw [e0, hl (List.range n) fun i hi => List.mem_range.1 hi, Option.bind_some]
  by_cases h : ((List.range n).all fun i => decide (f i = g i)) = true
  · rw [if_pos h, h]; rfl
  · rw [if_neg h, Bool.eq_false_iff.2 h]; rfl

theorem pv_equalArr {t e : TypeId} {n : Nat} {q : IntKind} {xs ys : Array Value} (f g : Nat → Int) (ht : P.underlying t = some (.array n e)) (he : P.underlying e = some (.int q)) (hs : sizeQ P e = some 1)
    (hx : ∀ i, i < n → xs[i]? = some (.int q (f i))) (hy : ∀ i, i < n → ys[i]? = some (.int q (g i))) :
    pv P (Op.equal t (.agg xs) (.agg ys)) = some ((List.range n).all fun i => decide (f i = g i)) := pv_eqArr (d := 9998) f g ht he hs hx hy

theorem arr_eq {t e : TypeId} {n : Nat} {q : IntKind} {xs ys : Array Value} {ox oy : Operand} (f g : Nat → Int) (ht : P.underlying t = some (.array n e)) (he : P.underlying e = some (.int q)) (hs : sizeQ P e = some 1)
    (hx : ∀ i, i < n → xs[i]? = some (.int q (f i))) (hy : ∀ i, i < n → ys[i]? = some (.int q (g i))) (hg : P.eqGuardType P.depth t = false) (g1 : gr 9 (.agg xs) = true) (g2 : gr 9 (.agg ys) = true) :
    xbin P .eql t ox oy (.agg xs) (.agg ys) = some (.bool ((List.range n).all fun i => decide (f i = g i))) := by
  have e' : xbin P .eql t ox oy (.agg xs) (.agg ys) = if gr 9 (.agg xs) && gr 9 (.agg ys) then pvg P (do eqGuard .eql t ox oy (.agg xs) (.agg ys); binOp .eql t (.agg xs) (.agg ys)) else (nilTest P t (.agg xs) (.agg ys)).map .bool := rfl
  rw [e', g1, g2]
  simp only [Bool.and_self, if_true]
  refine pvg_some ?_ rfl
  simp only [eqGuard, binOp, pv_bind', pv_program, Option.bind_some, hg, Bool.not_false, if_true, pv_pure, Bool.not_true, Bool.false_eq_true, if_false, pv_equalArr f g ht he hs hx hy]
theorem arr_ne {t e : TypeId} {n : Nat} {q : IntKind} {xs ys : Array Value} {ox oy : Operand} (f g : Nat → Int) (ht : P.underlying t = some (.array n e)) (he : P.underlying e = some (.int q)) (hs : sizeQ P e = some 1)
    (hx : ∀ i, i < n → xs[i]? = some (.int q (f i))) (hy : ∀ i, i < n → ys[i]? = some (.int q (g i))) (hg : P.eqGuardType P.depth t = false) (g1 : gr 9 (.agg xs) = true) (g2 : gr 9 (.agg ys) = true) :
    xbin P .neq t ox oy (.agg xs) (.agg ys) = some (.bool (!(List.range n).all fun i => decide (f i = g i))) := by
  have e' : xbin P .neq t ox oy (.agg xs) (.agg ys) = if gr 9 (.agg xs) && gr 9 (.agg ys) then pvg P (do eqGuard .neq t ox oy (.agg xs) (.agg ys); binOp .neq t (.agg xs) (.agg ys)) else (nilTest P t (.agg xs) (.agg ys)).map fun b => .bool !b := rfl
  rw [e', g1, g2]
  simp only [Bool.and_self, if_true]
  refine pvg_some ?_ rfl
  simp only [eqGuard, binOp, pv_bind', pv_program, Option.bind_some, hg, Bool.not_false, if_true, pv_pure, Bool.not_true, Bool.false_eq_true, if_false, pv_equalArr f g ht he hs hx hy]

@[go_sem] theorem ixA_b {n sz b o : Nat} {q : IntKind} {i : Int} (h : 0 ≤ i ∧ i < n) : ixA n sz (.pointer (some ⟨b, o, none⟩)) (.int q i) = some (.pointer (some ⟨b, o + i.toNat * sz, none⟩)) := by
  unfold ixA; simp only; rw [if_pos h]
theorem xindex_arr {t e : TypeId} {n : Nat} {q k : IntKind} {xs : Array Value} {v : Value} (ht : P.underlying t = some (.array n e)) (he : row? P e = some false) (hs : sizeQ P e = some 1) {i : Nat} (hi : i < n) (hx : xs[i]? = some v) :
    xindex P t (.agg xs) (.int k (i : Int)) = some v := by
  unfold xindex
  rw [ht]
  simp only [hs, Option.bind_some]
  rw [if_pos ⟨by omega, by omega⟩]
  unfold xpart prt1
  rw [he]
  simpa using hx

end Go.Proofs.Ytplblfcofplcmaa.Eng

/-
  Chapter 26: histograms.
  Conditions: none. By an AI agent.
-/
set_option maxRecDepth 10000
set_option linter.unusedSimpArgs false
set_option linter.unusedVariables false
namespace Go.Proofs.Ytplblfcofplcmaa
open Go Eng

structure Hi where
  bk : Nat → Int
  c : Int
  s : Int
  l : Int
  h : Int
def bkv (x : Hi) : List Value := (List.range 42).map fun i => .int .i64 (x.bk i)
def hv (x : Hi) : List Value := bkv x ++ [.int .i64 x.c, .int .i64 x.s, .int .i64 x.l, .int .i64 x.h]
@[reducible] def HB (x : Hi) : Blk := .cells (hv x) T.stats_Histogram true

theorem bkv_len (x : Hi) : (bkv x).length = 42 := by simp [bkv]
@[go_sem] theorem hv_len (x : Hi) : (hv x).length = 46 := by simp [hv, bkv_len]
@[go_sem] theorem hv_42 (x : Hi) : (hv x)[42]? = some (.int .i64 x.c) := rfl
@[go_sem] theorem hv_43 (x : Hi) : (hv x)[43]? = some (.int .i64 x.s) := rfl
@[go_sem] theorem hv_44 (x : Hi) : (hv x)[44]? = some (.int .i64 x.l) := rfl
@[go_sem] theorem hv_45 (x : Hi) : (hv x)[45]? = some (.int .i64 x.h) := rfl
theorem bkv_i (x : Hi) {i : Nat} (h : i < 42) : (bkv x)[i]? = some (.int .i64 (x.bk i)) := by simp [bkv, h]
theorem hv_i (x : Hi) {i : Nat} (h : i < 42) : (hv x)[i]? = some (.int .i64 (x.bk i)) := by
  unfold hv
  rw [List.getElem?_append_left (by rw [bkv_len]; exact h), bkv_i x h]
@[go_sem] theorem hv_set42 (x : Hi) (n : Int) : (hv x).set 42 (.int .i64 n) = hv { x with c := n } := rfl
@[go_sem] theorem hv_set43 (x : Hi) (n : Int) : (hv x).set 43 (.int .i64 n) = hv { x with s := n } := rfl
@[go_sem] theorem hv_set44 (x : Hi) (n : Int) : (hv x).set 44 (.int .i64 n) = hv { x with l := n } := rfl
@[go_sem] theorem hv_set45 (x : Hi) (n : Int) : (hv x).set 45 (.int .i64 n) = hv { x with h := n } := rfl
def upd (f : Nat → Int) (i : Nat) (n : Int) : Nat → Int := fun j => if j = i then n else f j
theorem hv_seti (x : Hi) {i : Nat} (h : i < 42) (n : Int) : (hv x).set i (.int .i64 n) = hv { x with bk := upd x.bk i n } := by
  unfold hv
  rw [List.set_append_left _ _ (by rw [bkv_len]; exact h)]
  congr 1
  apply List.ext_getElem?
  intro j
  by_cases hj : j < 42
  · rw [bkv_i _ hj, List.getElem?_set, bkv_i x hj, bkv_len]
    unfold upd
    by_cases e : i = j
    · subst e; simp [h]
    · have e' : ¬ j = i := fun h => e h.symm
      simp [e, e']
  · rw [List.getElem?_eq_none (by rw [List.length_set, bkv_len]; omega), List.getElem?_eq_none (by rw [bkv_len]; omega)]
@[go_sem] theorem hv_take42 (x : Hi) : (hv x).take 42 = bkv x := rfl
@[go_sem] theorem hv_take46 (x : Hi) : (hv x).take 46 = hv x := rfl

def zHi : Hi := ⟨fun _ => 0, 0, 0, 0, 0⟩
theorem zeros_hv : (.agg #[(.int .i64 0), (.int .i64 0), (.int .i64 0), (.int .i64 0), (.int .i64 0), (.int .i64 0), (.int .i64 0), (.int .i64 0), (.int .i64 0), (.int .i64 0), (.int .i64 0), (.int .i64 0), (.int .i64 0), (.int .i64 0), (.int .i64 0), (.int .i64 0), (.int .i64 0), (.int .i64 0), (.int .i64 0), (.int .i64 0), (.int .i64 0), (.int .i64 0), (.int .i64 0), (.int .i64 0), (.int .i64 0), (.int .i64 0), (.int .i64 0), (.int .i64 0), (.int .i64 0), (.int .i64 0), (.int .i64 0), (.int .i64 0), (.int .i64 0), (.int .i64 0), (.int .i64 0), (.int .i64 0), (.int .i64 0), (.int .i64 0), (.int .i64 0), (.int .i64 0), (.int .i64 0), (.int .i64 0), (.int .i64 0), (.int .i64 0), (.int .i64 0), (.int .i64 0)] : Value) = .agg ⟨hv zHi⟩ := rfl
theorem zeros_bk : (.agg #[(.int .i64 0), (.int .i64 0), (.int .i64 0), (.int .i64 0), (.int .i64 0), (.int .i64 0), (.int .i64 0), (.int .i64 0), (.int .i64 0), (.int .i64 0), (.int .i64 0), (.int .i64 0), (.int .i64 0), (.int .i64 0), (.int .i64 0), (.int .i64 0), (.int .i64 0), (.int .i64 0), (.int .i64 0), (.int .i64 0), (.int .i64 0), (.int .i64 0), (.int .i64 0), (.int .i64 0), (.int .i64 0), (.int .i64 0), (.int .i64 0), (.int .i64 0), (.int .i64 0), (.int .i64 0), (.int .i64 0), (.int .i64 0), (.int .i64 0), (.int .i64 0), (.int .i64 0), (.int .i64 0), (.int .i64 0), (.int .i64 0), (.int .i64 0), (.int .i64 0), (.int .i64 0), (.int .i64 0)] : Value) = .agg ⟨bkv zHi⟩ := rfl
theorem bld_bk : bldA #[(.int .i64 0), (.int .i64 0), (.int .i64 0), (.int .i64 0), (.int .i64 0), (.int .i64 0), (.int .i64 0), (.int .i64 0), (.int .i64 0), (.int .i64 0), (.int .i64 0), (.int .i64 0), (.int .i64 0), (.int .i64 0), (.int .i64 0), (.int .i64 0), (.int .i64 0), (.int .i64 0), (.int .i64 0), (.int .i64 0), (.int .i64 0), (.int .i64 0), (.int .i64 0), (.int .i64 0), (.int .i64 0), (.int .i64 0), (.int .i64 0), (.int .i64 0), (.int .i64 0), (.int .i64 0), (.int .i64 0), (.int .i64 0), (.int .i64 0), (.int .i64 0), (.int .i64 0), (.int .i64 0), (.int .i64 0), (.int .i64 0), (.int .i64 0), (.int .i64 0), (.int .i64 0), (.int .i64 0)] 1 [] = some (.agg ⟨bkv zHi⟩) := rfl
theorem bld_hv (c s l h : Int) : bldS #[(.int .i64 0), (.int .i64 0), (.int .i64 0), (.int .i64 0), (.int .i64 0), (.int .i64 0), (.int .i64 0), (.int .i64 0), (.int .i64 0), (.int .i64 0), (.int .i64 0), (.int .i64 0), (.int .i64 0), (.int .i64 0), (.int .i64 0), (.int .i64 0), (.int .i64 0), (.int .i64 0), (.int .i64 0), (.int .i64 0), (.int .i64 0), (.int .i64 0), (.int .i64 0), (.int .i64 0), (.int .i64 0), (.int .i64 0), (.int .i64 0), (.int .i64 0), (.int .i64 0), (.int .i64 0), (.int .i64 0), (.int .i64 0), (.int .i64 0), (.int .i64 0), (.int .i64 0), (.int .i64 0), (.int .i64 0), (.int .i64 0), (.int .i64 0), (.int .i64 0), (.int .i64 0), (.int .i64 0), (.int .i64 0), (.int .i64 0), (.int .i64 0), (.int .i64 0)] [(0, 42), (42, 1), (43, 1), (44, 1), (45, 1)] [(1, .int .i64 c), (2, .int .i64 s), (3, .int .i64 l), (4, .int .i64 h)] = some (.agg ⟨hv ⟨fun _ => 0, c, s, l, h⟩⟩) := rfl
theorem newv_hv {H : AHeap} (x : Hi) : newv T.stats_Histogram (.agg ⟨hv x⟩) H = some (.pointer (some ⟨H.n, 0, none⟩), H.push (HB x)) := rfl
theorem one_bkv (x : Hi) : (bkv x).all Eng.one = true := by simp [bkv, one_i]
theorem one_hv (x : Hi) : (hv x).all Eng.one = true := by rw [hv, List.all_append, one_bkv]; rfl
theorem spl_all : ∀ (ys a xs : List Value), xs.length = ys.length → spl (a ++ xs) a.length ys = a ++ ys
  | [], a, xs, h => by cases xs with | nil => rfl | cons _ _ => cases h
  | y :: ys, a, [], h => by cases h
  | y :: ys, a, x :: xs, h => by
    have h' : xs.length = ys.length := by simpa using h
    have ih := spl_all ys (a ++ [y]) xs h'
    rw [spl, List.set_append_right _ _ (Nat.le_refl _), Nat.sub_self, List.set_cons_zero]
    rw [List.length_append, List.append_assoc, List.append_assoc] at ih
    exact ih
theorem wr_hv (x y : Hi) : wrL (HB x) 0 (hv y) = some (HB y) := by
  rw [wrL_c (by rw [hv_len, hv_len]; decide) (one_hv y)]
  have := spl_all (hv y) [] (hv x) (by rw [hv_len, hv_len])
  rw [List.nil_append, List.nil_append, List.length_nil] at this
  rw [this]
theorem st_hv (x y : Hi) {H : AHeap} {b : Nat} (hf : H.f b = HB x) : stN 46 H (.pointer (some ⟨b, 0, none⟩)) (.agg ⟨hv y⟩) = some (H.set b (HB y)) := by
  rw [stN_b (hv_len y), hf, wr_hv, setB_s]

theorem gr_bk (x : Hi) : gr 9 (.agg ⟨bkv x⟩) = true := rfl
theorem gr_hv (x : Hi) : gr 9 (.agg ⟨hv x⟩) = true := rfl
def sameB (x y : Hi) : Bool := (List.range 42).all fun i => decide (x.bk i = y.bk i)
theorem bk_eq {ox oy : Operand} (x y : Hi) : xbin Try.prog .eql T.n42_int ox oy (.agg ⟨bkv x⟩) (.agg ⟨bkv y⟩) = some (.bool (sameB x y)) :=
  arr_eq x.bk y.bk Try.underlying45 Try.underlying3 (by kernel_rfl) (fun i h => by simpa using bkv_i x h) (fun i h => by simpa using bkv_i y h) (by kernel_rfl) (gr_bk x) (gr_bk y)
theorem bk_ne {ox oy : Operand} (x y : Hi) : xbin Try.prog .neq T.n42_int ox oy (.agg ⟨bkv x⟩) (.agg ⟨bkv y⟩) = some (.bool (!sameB x y)) :=
  arr_ne x.bk y.bk Try.underlying45 Try.underlying3 (by kernel_rfl) (fun i h => by simpa using bkv_i x h) (fun i h => by simpa using bkv_i y h) (by kernel_rfl) (gr_bk x) (gr_bk y)
theorem bk_ix (x : Hi) {i : Nat} (h : i < 42) : xindex Try.prog T.n42_int (.agg ⟨bkv x⟩) (.int .i64 (i : Int)) = some (.int .i64 (x.bk i)) :=
  xindex_arr (q := .i64) Try.underlying45 (by kernel_rfl) (by kernel_rfl) h (by simpa using bkv_i x h)

def empB (x : Hi) : Bool := sameB x zHi
theorem q_empty (x : Hi) (b : Nat) (H : AHeap) (hf : H.f b = HB x) : CC F.stats_Histogram_empty [.pointer (some ⟨b, 0, none⟩)] H = some (.bool (empB x), H) := by
  apply pure_of _ (d_stats_Histogram_empty _ H) rfl
  rotate_left 2
  · simp (disch := first | with_reducible rfl | assumption | omega | rfl | (simp only [go_sem]; first | done | omega)) only [go_sem, ↓reduceIte, reduceCtorEq, Nat.reduceEqDiff, Nat.reduceAdd, Nat.reduceSub, Nat.reduceMul, Nat.reduceDiv, Nat.reduceMod, Nat.reduceLeDiff, Nat.reduceLT, Nat.reduceBEq, Int.reduceEq, Int.reduceBEq, Int.reduceBNe, Int.reduceLT, Int.reduceLE, Int.reduceAdd, Int.reduceSub, Int.reduceNeg, Int.reduceToNat, Int.reducePow, Nat.reducePow, Int.reduceMul, Int.reduceDiv, ↓s_stats_Histogram_empty, hf, ↓bld_bk, bk_eq]
    rfl
  · (repeat (first | exact Fr.refl _ | refine Fr.push ?_ _ | refine Fr.set ?_ _ _ (by intro h; first | omega | (simp only [go_sem] at h; omega))))

end Go.Proofs.Ytplblfcofplcmaa

/-
  Chapter 26: joining histograms.
  Conditions: none. By an AI agent.
-/
set_option maxRecDepth 10000
set_option linter.unusedSimpArgs false
set_option linter.unusedVariables false
namespace Go.Proofs.Ytplblfcofplcmaa
open Go Eng

theorem l_join (b : Nat) (y : Hi) (hy : ∀ i, i < 42 → 0 ≤ y.bk i ∧ y.bk i ≤ 1099511627776) : ∀ (d i : Nat), i + d = 42 → ∀ (x : Hi) (H : AHeap), H.f b = HB x → b < H.n → (∀ j, i ≤ j → j < 42 → 0 ≤ x.bk j ∧ x.bk j ≤ 1099511627776) →
    ∃ H', (∀ K, l_stats_Histogram_join_0 (.pointer (some ⟨b, 0, none⟩)) (.agg ⟨bkv y⟩) (.int .i64 (i : Int)) H (blkK [] 1 K) = K .normal [] H') ∧
      H'.f b = HB { x with bk := fun j => if i ≤ j ∧ j < 42 then x.bk j + y.bk j else x.bk j } ∧ Fr (fun c => c = b) H H'
  | 0, i, hi, x, H, hf, hb, hx => by
    have h : ¬ (i : Int) < 42 := by omega
    refine ⟨H, fun K => ?_, ?_, Fr.refl H⟩
    · rw [r_stats_Histogram_join_0]
      simp (disch := first | with_reducible rfl | assumption | omega | rfl | (simp only [go_sem]; first | done | omega)) only [go_sem, ↓reduceIte, reduceCtorEq, Nat.reduceEqDiff, Nat.reduceAdd, Nat.reduceSub, Nat.reduceMul, Nat.reduceDiv, Nat.reduceMod, Nat.reduceLeDiff, Nat.reduceLT, Nat.reduceBEq, Int.reduceEq, Int.reduceBEq, Int.reduceBNe, Int.reduceLT, Int.reduceLE, Int.reduceAdd, Int.reduceSub, Int.reduceNeg, Int.reduceToNat, Int.reducePow, Nat.reducePow, Int.reduceMul, Int.reduceDiv, ↓s_stats_Histogram_join_b0, h]
    · rw [hf]
      have : (fun j => if i ≤ j ∧ j < 42 then x.bk j + y.bk j else x.bk j) = x.bk := by
        funext j
        rw [if_neg (by omega)]
      rw [this]
  | d + 1, i, hi, x, H, hf, hb, hx => by
    have h : (i : Int) < 42 := by omega
    have h' : i < 42 := by omega
    have r1 := hx i (Nat.le_refl _) h'
    have r2 := hy i h'
    have b0 : (0 : Int) ≤ (i : Int) ∧ (i : Int) < (42 : Nat) := by omega
    have hix := bk_ix y h'
    have hcell := hv_i x h'
    have hset := hv_seti x h' (x.bk i + y.bk i)
    obtain ⟨H1, hH1⟩ : ∃ H1, H.set b (HB { x with bk := upd x.bk i (x.bk i + y.bk i) }) = H1 := ⟨_, rfl⟩
    obtain ⟨H', hl, hf', hfr⟩ := l_join b y hy d (i + 1) (by omega) { x with bk := upd x.bk i (x.bk i + y.bk i) } H1 (by rw [← hH1]; exact set_f_eq) (by rw [← hH1]; exact hb) (fun j h1 h2 => by
      have : ¬ j = i := by omega
      simp only [upd, this, if_false]
      exact hx j (by omega) h2)
    refine ⟨H', fun K => ?_, ?_, ?_⟩
    · have ih := hl K
      rw [Int.natCast_add] at ih
      rw [r_stats_Histogram_join_0]
      simp (disch := first | with_reducible rfl | assumption | omega | rfl | (simp only [go_sem]; first | done | omega)) only [go_sem, ↓reduceIte, reduceCtorEq, Nat.reduceEqDiff, Nat.reduceAdd, Nat.reduceSub, Nat.reduceMul, Nat.reduceDiv, Nat.reduceMod, Nat.reduceLeDiff, Nat.reduceLT, Nat.reduceBEq, Int.reduceEq, Int.reduceBEq, Int.reduceBNe, Int.reduceLT, Int.reduceLE, Int.reduceAdd, Int.reduceSub, Int.reduceNeg, Int.reduceToNat, Int.reducePow, Nat.reducePow, Int.reduceMul, Int.reduceDiv, ↓s_stats_Histogram_join_b0, h, hix, hf, hcell, hset, hH1, Int.toNat_natCast, Nat.zero_add, Nat.mul_one, b0]
      exact ih
    · rw [hf']
      congr 3
      funext j
      simp only [upd]
      by_cases e : j = i
      · subst e
        rw [if_neg (by omega), if_pos rfl, if_pos ⟨Nat.le_refl _, h'⟩]
      · rw [if_neg e]
        by_cases e2 : i ≤ j ∧ j < 42
        · rw [if_pos e2, if_pos (by omega)]
        · rw [if_neg e2, if_neg (by omega)]
    · refine Fr.trans ?_ hfr
      rw [← hH1]
      exact (Fr.refl H).set b _ fun _ => rfl

theorem Fr.turned {S : Nat → Prop} {H H6 H' : AHeap} {b : Nat} (h : Fr S H6 H') (hb : b < H6.n) (h1 : H.clk ≤ H6.ver b) (h2 : H.clk ≤ H6.clk) : H.clk ≤ H'.ver b := by
  rcases h.old b hb with ⟨e, _⟩ | ⟨e, _⟩
  · rw [e]; exact h1
  · exact Nat.le_trans h2 e

def joinH (x y : Hi) : Hi := ⟨fun j => if j < 42 then x.bk j + y.bk j else x.bk j, x.c + y.c, x.s + y.s, min (if empB x = true then y.l else x.l) y.l, max x.h y.h⟩

structure OkI (x : Hi) : Prop where
  bk : ∀ i, i < 42 → 0 ≤ x.bk i ∧ x.bk i ≤ 1099511627776
  c : 0 ≤ x.c ∧ x.c ≤ 1099511627776
  s : 0 ≤ x.s ∧ x.s ≤ 4611686018427387904

theorem q_join (x y : Hi) (b : Nat) (H : AHeap) (hf : H.f b = HB x) (hb : b < H.n) (ok : ∀ b, H.ver b < H.clk) (hx : OkI x) (hy : OkI y) (f1 : ¬ 1099511627776 - x.c < y.c) (f2 : ¬ 4611686018427387904 - x.s < y.s) (he : empB y = false) :
    ∃ H', CC F.stats_Histogram_join [.pointer (some ⟨b, 0, none⟩), .agg ⟨hv y⟩] H = some (.int .i64 0, H') ∧ H'.f b = HB (joinH x y) ∧ Fr (fun c => c = b) H H' ∧ H.clk ≤ H'.ver b := by
  obtain ⟨xb, xc, xs, xl, xh⟩ := x
  obtain ⟨yb, yc, ys, yl, yh⟩ := y
  obtain ⟨hx1, hx2, hx3⟩ := hx
  obtain ⟨hy1, hy2, hy3⟩ := hy
  simp only at hx1 hx2 hx3 hy1 hy2 hy3 f1 f2
  obtain ⟨H1, hH1⟩ : ∃ H1, H.push (.cells (hv ⟨yb, yc, ys, yl, yh⟩) T.stats_Histogram true) = H1 := ⟨_, rfl⟩
  have n1 : H1.n = H.n + 1 := by rw [← hH1]; rfl
  have s1 : Still H H1 := by rw [← hH1]; exact (Fr.refl H).push _
  have g1 : H1.f H.n = .cells (hv ⟨yb, yc, ys, yl, yh⟩) T.stats_Histogram true := by rw [← hH1]; exact push_f_eq rfl
  have g1b : H1.f b = .cells (hv ⟨xb, xc, xs, xl, xh⟩) T.stats_Histogram true := by rw [← hH1, push_f_ne (by omega)]; exact hf
  have e1 := q_empty ⟨yb, yc, ys, yl, yh⟩ H.n H1 g1
  rw [he] at e1
  have e2 := q_empty ⟨xb, xc, xs, xl, xh⟩ b H1 g1b
  have hd1 := decide_eq_false f1
  have hd2 := decide_eq_false f2
  obtain ⟨L, hL⟩ : ∃ L, (if empB ⟨xb, xc, xs, xl, xh⟩ = true then yl else xl) = L := ⟨_, rfl⟩
  -- behind the switch
  obtain ⟨H2, hH2, g2, g2b, fr2, hc2⟩ : ∃ H2, (if empB ⟨xb, xc, xs, xl, xh⟩ = true then H1.set b (.cells (hv ⟨xb, xc, xs, yl, xh⟩) T.stats_Histogram true) else H1) = H2 ∧ H2.f H.n = .cells (hv ⟨yb, yc, ys, yl, yh⟩) T.stats_Histogram true ∧
      H2.f b = .cells (hv ⟨xb, xc, xs, L, xh⟩) T.stats_Histogram true ∧ Fr (fun c => c = b) H H2 ∧ H2.n = H1.n := by
    refine ⟨_, rfl, ?_, ?_, ?_, ?_⟩
    · split
      · rw [set_f_ne (by omega)]; exact g1
      · exact g1
    · rw [← hL]
      split
      · exact set_f_eq
      · exact g1b
    · split
      · exact Fr.set s1.still _ _ fun _ => rfl
      · exact s1.still
    · split <;> rfl
  obtain ⟨H3, hH3⟩ : ∃ H3, H2.set b (.cells (hv ⟨xb, xc, xs, min L yl, xh⟩) T.stats_Histogram true) = H3 := ⟨_, rfl⟩
  have g3 : H3.f H.n = .cells (hv ⟨yb, yc, ys, yl, yh⟩) T.stats_Histogram true := by rw [← hH3, set_f_ne (by omega)]; exact g2
  have g3b : H3.f b = .cells (hv ⟨xb, xc, xs, min L yl, xh⟩) T.stats_Histogram true := by rw [← hH3]; exact set_f_eq
  have fr3 : Fr (fun c => c = b) H H3 := by rw [← hH3]; exact Fr.set fr2 _ _ fun _ => rfl
  obtain ⟨H4, hH4⟩ : ∃ H4, H3.set b (.cells (hv ⟨xb, xc, xs, min L yl, max xh yh⟩) T.stats_Histogram true) = H4 := ⟨_, rfl⟩
  have g4 : H4.f H.n = .cells (hv ⟨yb, yc, ys, yl, yh⟩) T.stats_Histogram true := by rw [← hH4, set_f_ne (by omega)]; exact g3
  have g4b : H4.f b = .cells (hv ⟨xb, xc, xs, min L yl, max xh yh⟩) T.stats_Histogram true := by rw [← hH4]; exact set_f_eq
  have fr4 : Fr (fun c => c = b) H H4 := by rw [← hH4]; exact Fr.set fr3 _ _ fun _ => rfl
  obtain ⟨H5, hH5⟩ : ∃ H5, H4.set b (.cells (hv ⟨xb, xc + yc, xs, min L yl, max xh yh⟩) T.stats_Histogram true) = H5 := ⟨_, rfl⟩
  have g5 : H5.f H.n = .cells (hv ⟨yb, yc, ys, yl, yh⟩) T.stats_Histogram true := by rw [← hH5, set_f_ne (by omega)]; exact g4
  have g5b : H5.f b = .cells (hv ⟨xb, xc + yc, xs, min L yl, max xh yh⟩) T.stats_Histogram true := by rw [← hH5]; exact set_f_eq
  have fr5 : Fr (fun c => c = b) H H5 := by rw [← hH5]; exact Fr.set fr4 _ _ fun _ => rfl
  obtain ⟨H6, hH6⟩ : ∃ H6, H5.set b (.cells (hv ⟨xb, xc + yc, xs + ys, min L yl, max xh yh⟩) T.stats_Histogram true) = H6 := ⟨_, rfl⟩
  have g6 : H6.f H.n = .cells (hv ⟨yb, yc, ys, yl, yh⟩) T.stats_Histogram true := by rw [← hH6, set_f_ne (by omega)]; exact g5
  have g6b : H6.f b = .cells (hv ⟨xb, xc + yc, xs + ys, min L yl, max xh yh⟩) T.stats_Histogram true := by rw [← hH6]; exact set_f_eq
  have fr6 : Fr (fun c => c = b) H H6 := by rw [← hH6]; exact Fr.set fr5 _ _ fun _ => rfl
  have v6 : H.clk ≤ H6.ver b := by rw [← hH6, set_v_eq]; exact fr5.clk
  have n6 : b < H6.n := Nat.lt_of_lt_of_le hb fr6.n
  obtain ⟨H7, hl, g7, fr7⟩ := l_join b ⟨yb, yc, ys, yl, yh⟩ hy1 42 0 rfl ⟨xb, xc + yc, xs + ys, min L yl, max xh yh⟩ H6 g6b n6 (fun j _ h => hx1 j h)
  refine ⟨H7, (d_stats_Histogram_join _ _ H (r := (.int .i64 0, H7)) ?_).trans (congrArg some (tidy_turned hb (ok b) (Fr.turned fr7 n6 v6 fr6.clk))), ?_, fr6.trans fr7, Fr.turned fr7 n6 v6 fr6.clk⟩
  · cases hE : empB ⟨xb, xc, xs, xl, xh⟩ with
    | true =>
      rw [hE] at hH2 e2
      rw [if_pos rfl] at hH2
      obtain rfl : yl = L := by rw [← hL, hE]; rfl
      simp (disch := first | with_reducible rfl | assumption | omega | rfl | (simp only [go_sem]; first | done | omega)) only [go_sem, ↓reduceIte, reduceCtorEq, Nat.reduceEqDiff, Nat.reduceAdd, Nat.reduceSub, Nat.reduceMul, Nat.reduceDiv, Nat.reduceMod, Nat.reduceLeDiff, Nat.reduceLT, Nat.reduceBEq, Int.reduceEq, Int.reduceBEq, Int.reduceBNe, Int.reduceLT, Int.reduceLE, Int.reduceAdd, Int.reduceSub, Int.reduceNeg, Int.reduceToNat, Int.reducePow, Nat.reducePow, Int.reduceMul, Int.reduceDiv, ↓s_stats_Histogram_join, hH1, g1, g1b, hd1, hd2, ↓enterK_eq e1, enterK_eq e1, ↓enterK_eq e2, enterK_eq e2, hH2, g2, g2b, hH3, g3, g3b, hH4, g4, g4b, hH5, g5, g5b, hH6, g6]
      exact hl _
    | false =>
      rw [hE] at hH2 e2
      rw [if_neg (by decide)] at hH2
      subst hH2
      obtain rfl : xl = L := by rw [← hL, hE]; rfl
      simp (disch := first | with_reducible rfl | assumption | omega | rfl | (simp only [go_sem]; first | done | omega)) only [go_sem, ↓reduceIte, reduceCtorEq, Nat.reduceEqDiff, Nat.reduceAdd, Nat.reduceSub, Nat.reduceMul, Nat.reduceDiv, Nat.reduceMod, Nat.reduceLeDiff, Nat.reduceLT, Nat.reduceBEq, Int.reduceEq, Int.reduceBEq, Int.reduceBNe, Int.reduceLT, Int.reduceLE, Int.reduceAdd, Int.reduceSub, Int.reduceNeg, Int.reduceToNat, Int.reducePow, Nat.reducePow, Int.reduceMul, Int.reduceDiv, ↓s_stats_Histogram_join, hH1, g1, g1b, hd1, hd2, ↓enterK_eq e1, enterK_eq e1, ↓enterK_eq e2, enterK_eq e2, g2, g2b, hH3, g3, g3b, hH4, g4, g4b, hH5, g5, g5b, hH6, g6]
      exact hl _
  · rw [g7]
    unfold joinH
    simp only [Nat.zero_le, true_and, hL]

theorem q_join_full (x y : Hi) (b : Nat) (H : AHeap) (hf : H.f b = HB x) (hb : b < H.n) (hx : OkI x) (hy : OkI y) (f1 : 1099511627776 - x.c < y.c ∨ 4611686018427387904 - x.s < y.s) :
    CC F.stats_Histogram_join [.pointer (some ⟨b, 0, none⟩), .agg ⟨hv y⟩] H = some (.int .i64 7, H) := by
  obtain ⟨xb, xc, xs, xl, xh⟩ := x
  obtain ⟨yb, yc, ys, yl, yh⟩ := y
  obtain ⟨hx1, hx2, hx3⟩ := hx
  obtain ⟨hy1, hy2, hy3⟩ := hy
  simp only at hx2 hx3 hy2 hy3 f1
  obtain ⟨H1, hH1⟩ : ∃ H1, H.push (.cells (hv ⟨yb, yc, ys, yl, yh⟩) T.stats_Histogram true) = H1 := ⟨_, rfl⟩
  have s1 : Still H H1 := by rw [← hH1]; exact (Fr.refl H).push _
  have g1 : H1.f H.n = .cells (hv ⟨yb, yc, ys, yl, yh⟩) T.stats_Histogram true := by rw [← hH1]; exact push_f_eq rfl
  have g1b : H1.f b = .cells (hv ⟨xb, xc, xs, xl, xh⟩) T.stats_Histogram true := by rw [← hH1, push_f_ne (by omega)]; exact hf
  by_cases hc : 1099511627776 - xc < yc
  · apply pure_of _ (d_stats_Histogram_join _ _ H) rfl
    rotate_left 2
    · simp (disch := first | with_reducible rfl | assumption | omega | rfl | (simp only [go_sem]; first | done | omega)) only [go_sem, ↓reduceIte, reduceCtorEq, Nat.reduceEqDiff, Nat.reduceAdd, Nat.reduceSub, Nat.reduceMul, Nat.reduceDiv, Nat.reduceMod, Nat.reduceLeDiff, Nat.reduceLT, Nat.reduceBEq, Int.reduceEq, Int.reduceBEq, Int.reduceBNe, Int.reduceLT, Int.reduceLE, Int.reduceAdd, Int.reduceSub, Int.reduceNeg, Int.reduceToNat, Int.reducePow, Nat.reducePow, Int.reduceMul, Int.reduceDiv, ↓s_stats_Histogram_join, hH1, g1, g1b, decide_eq_true hc]
      rfl
    · exact s1
  · have hc2 := f1.resolve_left hc
    apply pure_of _ (d_stats_Histogram_join _ _ H) rfl
    rotate_left 2
    · simp (disch := first | with_reducible rfl | assumption | omega | rfl | (simp only [go_sem]; first | done | omega)) only [go_sem, ↓reduceIte, reduceCtorEq, Nat.reduceEqDiff, Nat.reduceAdd, Nat.reduceSub, Nat.reduceMul, Nat.reduceDiv, Nat.reduceMod, Nat.reduceLeDiff, Nat.reduceLT, Nat.reduceBEq, Int.reduceEq, Int.reduceBEq, Int.reduceBNe, Int.reduceLT, Int.reduceLE, Int.reduceAdd, Int.reduceSub, Int.reduceNeg, Int.reduceToNat, Int.reducePow, Nat.reducePow, Int.reduceMul, Int.reduceDiv, ↓s_stats_Histogram_join, hH1, g1, g1b, decide_eq_false hc, decide_eq_true hc2]
      rfl
    · exact s1

theorem q_join_empty (x y : Hi) (b : Nat) (H : AHeap) (hf : H.f b = HB x) (hb : b < H.n) (hx : OkI x) (hy : OkI y) (f1 : ¬ 1099511627776 - x.c < y.c) (f2 : ¬ 4611686018427387904 - x.s < y.s) (he : empB y = true) :
    CC F.stats_Histogram_join [.pointer (some ⟨b, 0, none⟩), .agg ⟨hv y⟩] H = some (.int .i64 0, H) := by
  obtain ⟨xb, xc, xs, xl, xh⟩ := x
  obtain ⟨yb, yc, ys, yl, yh⟩ := y
  obtain ⟨hx1, hx2, hx3⟩ := hx
  obtain ⟨hy1, hy2, hy3⟩ := hy
  simp only at hx2 hx3 hy2 hy3 f1 f2
  obtain ⟨H1, hH1⟩ : ∃ H1, H.push (.cells (hv ⟨yb, yc, ys, yl, yh⟩) T.stats_Histogram true) = H1 := ⟨_, rfl⟩
  have s1 : Still H H1 := by rw [← hH1]; exact (Fr.refl H).push _
  have g1 : H1.f H.n = .cells (hv ⟨yb, yc, ys, yl, yh⟩) T.stats_Histogram true := by rw [← hH1]; exact push_f_eq rfl
  have g1b : H1.f b = .cells (hv ⟨xb, xc, xs, xl, xh⟩) T.stats_Histogram true := by rw [← hH1, push_f_ne (by omega)]; exact hf
  have e1 := q_empty ⟨yb, yc, ys, yl, yh⟩ H.n H1 g1
  rw [he] at e1
  apply pure_of _ (d_stats_Histogram_join _ _ H) rfl
  rotate_left 2
  · simp (disch := first | with_reducible rfl | assumption | omega | rfl | (simp only [go_sem]; first | done | omega)) only [go_sem, ↓reduceIte, reduceCtorEq, Nat.reduceEqDiff, Nat.reduceAdd, Nat.reduceSub, Nat.reduceMul, Nat.reduceDiv, Nat.reduceMod, Nat.reduceLeDiff, Nat.reduceLT, Nat.reduceBEq, Int.reduceEq, Int.reduceBEq, Int.reduceBNe, Int.reduceLT, Int.reduceLE, Int.reduceAdd, Int.reduceSub, Int.reduceNeg, Int.reduceToNat, Int.reducePow, Nat.reducePow, Int.reduceMul, Int.reduceDiv, ↓s_stats_Histogram_join, hH1, g1, g1b, decide_eq_false f1, decide_eq_false f2, ↓enterK_eq e1, enterK_eq e1]
    rfl
  · exact s1

end Go.Proofs.Ytplblfcofplcmaa

/-
  Chapter 26: what a histogram tells; counting, merging, copying.
  Conditions: none. By an AI agent.
-/
set_option maxRecDepth 10000
set_option linter.unusedSimpArgs false
set_option linter.unusedVariables false
namespace Go.Proofs.Ytplblfcofplcmaa
open Go Eng

@[go_sem] theorem hp_some {ox oy : Operand} {a : Addr} : xbin Try.prog .eql T.p_stats_Histogram ox oy (.pointer (some a)) (.pointer none) = some (.bool false) := by kernel_rfl

theorem q_check (x : Hi) (b : Nat) (H : AHeap) (hf : H.f b = HB x) : CC F.stats_Histogram_check [.pointer (some ⟨b, 0, none⟩)] H = some (.int .i64 (if empB x = true then 9 else 0), H) := by
  have e := q_empty x b H hf
  cases hE : empB x <;> rw [hE] at e <;>
  · apply pure_of _ (d_stats_Histogram_check _ H) rfl
    rotate_left 2
    · simp (disch := first | with_reducible rfl | assumption | omega | rfl | (simp only [go_sem]; first | done | omega)) only [go_sem, ↓reduceIte, reduceCtorEq, Nat.reduceEqDiff, Nat.reduceAdd, Nat.reduceSub, Nat.reduceMul, Nat.reduceDiv, Nat.reduceMod, Nat.reduceLeDiff, Nat.reduceLT, Nat.reduceBEq, Int.reduceEq, Int.reduceBEq, Int.reduceBNe, Int.reduceLT, Int.reduceLE, Int.reduceAdd, Int.reduceSub, Int.reduceNeg, Int.reduceToNat, Int.reducePow, Nat.reducePow, Int.reduceMul, Int.reduceDiv, ↓s_stats_Histogram_check, ↓enterK_eq e, enterK_eq e]
      rfl
    · (repeat (first | exact Fr.refl _ | refine Fr.push ?_ _ | refine Fr.set ?_ _ _ (by intro h; first | omega | (simp only [go_sem] at h; omega))))
theorem q_Min (x : Hi) (b : Nat) (H : AHeap) (hf : H.f b = HB x) : CC F.stats_Histogram_Min [.pointer (some ⟨b, 0, none⟩)] H = some (.tuple ⟨[.int .i64 (if empB x = true then 0 else x.l), .int .i64 (if empB x = true then 9 else 0)]⟩, H) := by
  have e := q_check x b H hf
  cases hE : empB x <;> rw [hE] at e
  · rw [if_neg (by decide)] at e
    apply pure_of _ (d_stats_Histogram_Min _ H) rfl
    rotate_left 2
    · simp (disch := first | with_reducible rfl | assumption | omega | rfl | (simp only [go_sem]; first | done | omega)) only [go_sem, ↓reduceIte, reduceCtorEq, Nat.reduceEqDiff, Nat.reduceAdd, Nat.reduceSub, Nat.reduceMul, Nat.reduceDiv, Nat.reduceMod, Nat.reduceLeDiff, Nat.reduceLT, Nat.reduceBEq, Int.reduceEq, Int.reduceBEq, Int.reduceBNe, Int.reduceLT, Int.reduceLE, Int.reduceAdd, Int.reduceSub, Int.reduceNeg, Int.reduceToNat, Int.reducePow, Nat.reducePow, Int.reduceMul, Int.reduceDiv, ↓s_stats_Histogram_Min, ↓enterK_eq e, enterK_eq e, hf, hv_44]
      rfl
    · (repeat (first | exact Fr.refl _ | refine Fr.push ?_ _ | refine Fr.set ?_ _ _ (by intro h; first | omega | (simp only [go_sem] at h; omega))))
  · rw [if_pos rfl] at e
    apply pure_of _ (d_stats_Histogram_Min _ H) rfl
    rotate_left 2
    · simp (disch := first | with_reducible rfl | assumption | omega | rfl | (simp only [go_sem]; first | done | omega)) only [go_sem, ↓reduceIte, reduceCtorEq, Nat.reduceEqDiff, Nat.reduceAdd, Nat.reduceSub, Nat.reduceMul, Nat.reduceDiv, Nat.reduceMod, Nat.reduceLeDiff, Nat.reduceLT, Nat.reduceBEq, Int.reduceEq, Int.reduceBEq, Int.reduceBNe, Int.reduceLT, Int.reduceLE, Int.reduceAdd, Int.reduceSub, Int.reduceNeg, Int.reduceToNat, Int.reducePow, Nat.reducePow, Int.reduceMul, Int.reduceDiv, ↓s_stats_Histogram_Min, ↓enterK_eq e, enterK_eq e]
      rfl
    · (repeat (first | exact Fr.refl _ | refine Fr.push ?_ _ | refine Fr.set ?_ _ _ (by intro h; first | omega | (simp only [go_sem] at h; omega))))
theorem q_Max (x : Hi) (b : Nat) (H : AHeap) (hf : H.f b = HB x) : CC F.stats_Histogram_Max [.pointer (some ⟨b, 0, none⟩)] H = some (.tuple ⟨[.int .i64 (if empB x = true then 0 else x.h), .int .i64 (if empB x = true then 9 else 0)]⟩, H) := by
  have e := q_check x b H hf
  cases hE : empB x <;> rw [hE] at e
  · rw [if_neg (by decide)] at e
    apply pure_of _ (d_stats_Histogram_Max _ H) rfl
    rotate_left 2
    · simp (disch := first | with_reducible rfl | assumption | omega | rfl | (simp only [go_sem]; first | done | omega)) only [go_sem, ↓reduceIte, reduceCtorEq, Nat.reduceEqDiff, Nat.reduceAdd, Nat.reduceSub, Nat.reduceMul, Nat.reduceDiv, Nat.reduceMod, Nat.reduceLeDiff, Nat.reduceLT, Nat.reduceBEq, Int.reduceEq, Int.reduceBEq, Int.reduceBNe, Int.reduceLT, Int.reduceLE, Int.reduceAdd, Int.reduceSub, Int.reduceNeg, Int.reduceToNat, Int.reducePow, Nat.reducePow, Int.reduceMul, Int.reduceDiv, ↓s_stats_Histogram_Max, ↓enterK_eq e, enterK_eq e, hf, hv_45]
      rfl
    · (repeat (first | exact Fr.refl _ | refine Fr.push ?_ _ | refine Fr.set ?_ _ _ (by intro h; first | omega | (simp only [go_sem] at h; omega))))
  · rw [if_pos rfl] at e
    apply pure_of _ (d_stats_Histogram_Max _ H) rfl
    rotate_left 2
    · simp (disch := first | with_reducible rfl | assumption | omega | rfl | (simp only [go_sem]; first | done | omega)) only [go_sem, ↓reduceIte, reduceCtorEq, Nat.reduceEqDiff, Nat.reduceAdd, Nat.reduceSub, Nat.reduceMul, Nat.reduceDiv, Nat.reduceMod, Nat.reduceLeDiff, Nat.reduceLT, Nat.reduceBEq, Int.reduceEq, Int.reduceBEq, Int.reduceBNe, Int.reduceLT, Int.reduceLE, Int.reduceAdd, Int.reduceSub, Int.reduceNeg, Int.reduceToNat, Int.reducePow, Nat.reducePow, Int.reduceMul, Int.reduceDiv, ↓s_stats_Histogram_Max, ↓enterK_eq e, enterK_eq e]
      rfl
    · (repeat (first | exact Fr.refl _ | refine Fr.push ?_ _ | refine Fr.set ?_ _ _ (by intro h; first | omega | (simp only [go_sem] at h; omega))))
theorem q_Mean (x : Hi) (b : Nat) (H : AHeap) (hf : H.f b = HB x) (hs : 0 ≤ x.s ∧ x.s ≤ 4611686018427387904) (hc : empB x = true ∨ 0 < x.c) : CC F.stats_Histogram_Mean [.pointer (some ⟨b, 0, none⟩)] H = some (.tuple ⟨[.int .i64 (if empB x = true then 0 else x.s / x.c), .int .i64 (if empB x = true then 9 else 0)]⟩, H) := by
  have e := q_check x b H hf
  cases hE : empB x <;> rw [hE] at e
  · rw [if_neg (by decide)] at e
    have hc' : 0 < x.c := hc.resolve_left (by rw [hE]; decide)
    have hq : ∀ ox oy, xbin Try.prog .quo T.int ox oy (.int .i64 x.s) (.int .i64 x.c) = some (.int .i64 (x.s / x.c)) := fun ox oy => quoI hs.1 hc' (by omega)
    apply pure_of _ (d_stats_Histogram_Mean _ H) rfl
    rotate_left 2
    · simp (disch := first | with_reducible rfl | assumption | omega | rfl | (simp only [go_sem]; first | done | omega)) only [go_sem, ↓reduceIte, reduceCtorEq, Nat.reduceEqDiff, Nat.reduceAdd, Nat.reduceSub, Nat.reduceMul, Nat.reduceDiv, Nat.reduceMod, Nat.reduceLeDiff, Nat.reduceLT, Nat.reduceBEq, Int.reduceEq, Int.reduceBEq, Int.reduceBNe, Int.reduceLT, Int.reduceLE, Int.reduceAdd, Int.reduceSub, Int.reduceNeg, Int.reduceToNat, Int.reducePow, Nat.reducePow, Int.reduceMul, Int.reduceDiv, ↓s_stats_Histogram_Mean, ↓enterK_eq e, enterK_eq e, hf, ↓hq, hq]
      rfl
    · (repeat (first | exact Fr.refl _ | refine Fr.push ?_ _ | refine Fr.set ?_ _ _ (by intro h; first | omega | (simp only [go_sem] at h; omega))))
  · rw [if_pos rfl] at e
    apply pure_of _ (d_stats_Histogram_Mean _ H) rfl
    rotate_left 2
    · simp (disch := first | with_reducible rfl | assumption | omega | rfl | (simp only [go_sem]; first | done | omega)) only [go_sem, ↓reduceIte, reduceCtorEq, Nat.reduceEqDiff, Nat.reduceAdd, Nat.reduceSub, Nat.reduceMul, Nat.reduceDiv, Nat.reduceMod, Nat.reduceLeDiff, Nat.reduceLT, Nat.reduceBEq, Int.reduceEq, Int.reduceBEq, Int.reduceBNe, Int.reduceLT, Int.reduceLE, Int.reduceAdd, Int.reduceSub, Int.reduceNeg, Int.reduceToNat, Int.reducePow, Nat.reducePow, Int.reduceMul, Int.reduceDiv, ↓s_stats_Histogram_Mean, ↓enterK_eq e, enterK_eq e]
      rfl
    · (repeat (first | exact Fr.refl _ | refine Fr.push ?_ _ | refine Fr.set ?_ _ _ (by intro h; first | omega | (simp only [go_sem] at h; omega))))
theorem q_Count (x : Hi) (b : Nat) (H : AHeap) (hf : H.f b = HB x) : CC F.stats_Histogram_Count [.pointer (some ⟨b, 0, none⟩)] H = some (.int .i64 x.c, H) := by
  apply pure_of _ (d_stats_Histogram_Count _ H) rfl
  rotate_left 2
  · simp (disch := first | with_reducible rfl | assumption | omega | rfl | (simp only [go_sem]; first | done | omega)) only [go_sem, ↓reduceIte, reduceCtorEq, Nat.reduceEqDiff, Nat.reduceAdd, Nat.reduceSub, Nat.reduceMul, Nat.reduceDiv, Nat.reduceMod, Nat.reduceLeDiff, Nat.reduceLT, Nat.reduceBEq, Int.reduceEq, Int.reduceBEq, Int.reduceBNe, Int.reduceLT, Int.reduceLE, Int.reduceAdd, Int.reduceSub, Int.reduceNeg, Int.reduceToNat, Int.reducePow, Nat.reducePow, Int.reduceMul, Int.reduceDiv, ↓s_stats_Histogram_Count, hf]
    rfl
  · (repeat (first | exact Fr.refl _ | refine Fr.push ?_ _ | refine Fr.set ?_ _ _ (by intro h; first | omega | (simp only [go_sem] at h; omega))))
theorem q_Sum (x : Hi) (b : Nat) (H : AHeap) (hf : H.f b = HB x) : CC F.stats_Histogram_Sum [.pointer (some ⟨b, 0, none⟩)] H = some (.int .i64 x.s, H) := by
  apply pure_of _ (d_stats_Histogram_Sum _ H) rfl
  rotate_left 2
  · simp (disch := first | with_reducible rfl | assumption | omega | rfl | (simp only [go_sem]; first | done | omega)) only [go_sem, ↓reduceIte, reduceCtorEq, Nat.reduceEqDiff, Nat.reduceAdd, Nat.reduceSub, Nat.reduceMul, Nat.reduceDiv, Nat.reduceMod, Nat.reduceLeDiff, Nat.reduceLT, Nat.reduceBEq, Int.reduceEq, Int.reduceBEq, Int.reduceBNe, Int.reduceLT, Int.reduceLE, Int.reduceAdd, Int.reduceSub, Int.reduceNeg, Int.reduceToNat, Int.reducePow, Nat.reducePow, Int.reduceMul, Int.reduceDiv, ↓s_stats_Histogram_Sum, hf]
    rfl
  · (repeat (first | exact Fr.refl _ | refine Fr.push ?_ _ | refine Fr.set ?_ _ _ (by intro h; first | omega | (simp only [go_sem] at h; omega))))

theorem bk_push {H : AHeap} : newv T.n42_int (.agg #[(.int .i64 0), (.int .i64 0), (.int .i64 0), (.int .i64 0), (.int .i64 0), (.int .i64 0), (.int .i64 0), (.int .i64 0), (.int .i64 0), (.int .i64 0), (.int .i64 0), (.int .i64 0), (.int .i64 0), (.int .i64 0), (.int .i64 0), (.int .i64 0), (.int .i64 0), (.int .i64 0), (.int .i64 0), (.int .i64 0), (.int .i64 0), (.int .i64 0), (.int .i64 0), (.int .i64 0), (.int .i64 0), (.int .i64 0), (.int .i64 0), (.int .i64 0), (.int .i64 0), (.int .i64 0), (.int .i64 0), (.int .i64 0), (.int .i64 0), (.int .i64 0), (.int .i64 0), (.int .i64 0), (.int .i64 0), (.int .i64 0), (.int .i64 0), (.int .i64 0), (.int .i64 0), (.int .i64 0)]) H = some (.pointer (some ⟨H.n, 0, none⟩), H.push (.cells (bkv zHi) T.n42_int true)) := rfl
theorem st_bk (x y : Hi) {H : AHeap} {b : Nat} (hf : H.f b = .cells (bkv x) T.n42_int true) : stN 42 H (.pointer (some ⟨b, 0, none⟩)) (.agg ⟨bkv y⟩) = some (H.set b (.cells (bkv y) T.n42_int true)) := by
  rw [stN_b (bkv_len y), hf, wrL_c (by rw [bkv_len, bkv_len]; decide) (one_bkv y), setB_s]
  have := spl_all (bkv y) [] (bkv x) (by rw [bkv_len, bkv_len])
  rw [List.nil_append, List.nil_append, List.length_nil] at this
  rw [this]
theorem cut_bk (x : Hi) : cutB (.cells (bkv x) T.n42_int true) 0 42 = some (bkv x) := rfl
theorem q_Buckets (x : Hi) (b : Nat) (H : AHeap) (hf : H.f b = HB x) (hb : b < H.n) : CC F.stats_Histogram_Buckets [.pointer (some ⟨b, 0, none⟩)] H = some (.agg ⟨bkv x⟩, H) := by
  obtain ⟨H1, hH1⟩ : ∃ H1, H.push (.cells (bkv zHi) T.n42_int true) = H1 := ⟨_, rfl⟩
  have s1 : Still H H1 := by rw [← hH1]; exact (Fr.refl H).push _
  have g1 : H1.f H.n = .cells (bkv zHi) T.n42_int true := by rw [← hH1]; exact push_f_eq rfl
  have g1b : H1.f b = .cells (hv x) T.stats_Histogram true := by rw [← hH1, push_f_ne (by omega)]; exact hf
  have hst := st_bk zHi x g1
  obtain ⟨H2, hH2⟩ : ∃ H2, H1.set H.n (.cells (bkv x) T.n42_int true) = H2 := ⟨_, rfl⟩
  rw [hH2] at hst
  have s2 : Still H H2 := by rw [← hH2]; exact Fr.set s1 _ _ fun h => by omega
  have g2 : H2.f H.n = .cells (bkv x) T.n42_int true := by rw [← hH2]; exact set_f_eq
  have hld : xload Try.prog T.n42_int (.pointer (some ⟨H.n, 0, none⟩)) H2 = some (.agg ⟨bkv x⟩) := by
    have e : xload Try.prog T.n42_int (.pointer (some ⟨H.n, 0, none⟩)) H2 = ldN 42 H2 (.pointer (some ⟨H.n, 0, none⟩)) := by
      unfold xload
      rw [show row? Try.prog T.n42_int = some true by kernel_rfl, show Try.prog.cellsOf T.n42_int = 42 by kernel_rfl]
    rw [e, ldN_b, g2, cut_bk]
    rfl
  apply pure_of _ (d_stats_Histogram_Buckets _ H) rfl
  rotate_left 2
  · simp (disch := first | with_reducible rfl | assumption | omega | rfl | (simp only [go_sem]; first | done | omega)) only [go_sem, ↓reduceIte, reduceCtorEq, Nat.reduceEqDiff, Nat.reduceAdd, Nat.reduceSub, Nat.reduceMul, Nat.reduceDiv, Nat.reduceMod, Nat.reduceLeDiff, Nat.reduceLT, Nat.reduceBEq, Int.reduceEq, Int.reduceBEq, Int.reduceBNe, Int.reduceLT, Int.reduceLE, Int.reduceAdd, Int.reduceSub, Int.reduceNeg, Int.reduceToNat, Int.reducePow, Nat.reducePow, Int.reduceMul, Int.reduceDiv, ↓s_stats_Histogram_Buckets, ↓bk_push, hH1, g1b, ↓hst, hst, g2, cut_bk, hld]
    rfl
  · exact s2

theorem q_Copy (x : Hi) (b : Nat) (H : AHeap) (hf : H.f b = HB x) (hb : b < H.n) : ∃ H', CC F.stats_Histogram_Copy [.pointer (some ⟨b, 0, none⟩)] H = some (.pointer (some ⟨H.n, 0, none⟩), H') ∧ H'.f H.n = HB x ∧ Still H H' ∧ H.n < H'.n := by
  obtain ⟨H1, hH1⟩ : ∃ H1, H.push (.cells (hv zHi) T.stats_Histogram true) = H1 := ⟨_, rfl⟩
  have s1 : Still H H1 := by rw [← hH1]; exact (Fr.refl H).push _
  have g1 : H1.f H.n = .cells (hv zHi) T.stats_Histogram true := by rw [← hH1]; exact push_f_eq rfl
  have g1b : H1.f b = .cells (hv x) T.stats_Histogram true := by rw [← hH1, push_f_ne (by omega)]; exact hf
  have hst := st_hv zHi x g1
  obtain ⟨H2, hH2⟩ : ∃ H2, H1.set H.n (HB x) = H2 := ⟨_, rfl⟩
  rw [hH2] at hst
  have s2 : Still H H2 := by rw [← hH2]; exact Fr.set s1 _ _ fun h => by omega
  have hp : newv T.stats_Histogram (.agg #[(.int .i64 0), (.int .i64 0), (.int .i64 0), (.int .i64 0), (.int .i64 0), (.int .i64 0), (.int .i64 0), (.int .i64 0), (.int .i64 0), (.int .i64 0), (.int .i64 0), (.int .i64 0), (.int .i64 0), (.int .i64 0), (.int .i64 0), (.int .i64 0), (.int .i64 0), (.int .i64 0), (.int .i64 0), (.int .i64 0), (.int .i64 0), (.int .i64 0), (.int .i64 0), (.int .i64 0), (.int .i64 0), (.int .i64 0), (.int .i64 0), (.int .i64 0), (.int .i64 0), (.int .i64 0), (.int .i64 0), (.int .i64 0), (.int .i64 0), (.int .i64 0), (.int .i64 0), (.int .i64 0), (.int .i64 0), (.int .i64 0), (.int .i64 0), (.int .i64 0), (.int .i64 0), (.int .i64 0), (.int .i64 0), (.int .i64 0), (.int .i64 0), (.int .i64 0)]) H = some (.pointer (some ⟨H.n, 0, none⟩), H1) := by rw [← hH1]; rfl
  refine ⟨H2, (d_stats_Histogram_Copy _ H (r := (.pointer (some ⟨H.n, 0, none⟩), H2)) ?_).trans (congrArg some (tidy_mem rfl)), by rw [← hH2]; exact set_f_eq, s2, by rw [← hH2, ← hH1]; exact Nat.lt_succ_self _⟩
  simp (disch := first | with_reducible rfl | assumption | omega | rfl | (simp only [go_sem]; first | done | omega)) only [go_sem, ↓reduceIte, reduceCtorEq, Nat.reduceEqDiff, Nat.reduceAdd, Nat.reduceSub, Nat.reduceMul, Nat.reduceDiv, Nat.reduceMod, Nat.reduceLeDiff, Nat.reduceLT, Nat.reduceBEq, Int.reduceEq, Int.reduceBEq, Int.reduceBNe, Int.reduceLT, Int.reduceLE, Int.reduceAdd, Int.reduceSub, Int.reduceNeg, Int.reduceToNat, Int.reducePow, Nat.reducePow, Int.reduceMul, Int.reduceDiv, ↓s_stats_Histogram_Copy, hf, ↓hp, ↓hst, hst]

/-! ### quantiles -/
def qtL (x : Hi) (p : Int) : Nat → Nat → Int → Int
  | 0, _, _ => x.h
  | d + 1, i, r => if 0 < x.bk i ∧ p * x.c ≤ 1000 * (r + x.bk i) then min (hiN i) x.h else qtL x p d (i + 1) (r + x.bk i)

theorem l_Quantile (x : Hi) (b : Nat) (p : Int) (H : AHeap) (hf : H.f b = HB x) (hx : OkI x) (hp : 0 ≤ p ∧ p ≤ 1000) (K : K) : ∀ (d i : Nat) (r : Int), i + d = 42 → 0 ≤ r ∧ r ≤ i * 1099511627776 →
    l_stats_Histogram_Quantile_0 (.pointer (some ⟨b, 0, none⟩)) (.int .i64 p) (.int .i64 r) (.agg ⟨bkv x⟩) (.int .i64 (i : Int)) H (blkK [0] 0 (seqK (fun tT h13 => bareK (xnilCheck (get tT 0)) h13 fun t65 h14 => bareK (fad 45 t65) h14 fun t66 h15 => bareK (ld1 h15 t66) h15 fun t67 h16 => K .ret [(4, t67), (5, (.int .i64 0))] h16) K)) =
      K .ret [(4, .int .i64 (qtL x p d i r)), (5, .int .i64 0)] H
  | 0, i, r, hi, hr => by
    have h : ¬ (i : Int) < 42 := by omega
    rw [r_stats_Histogram_Quantile_0, qtL]
    simp (disch := first | with_reducible rfl | assumption | omega | rfl | (simp only [go_sem]; first | done | omega)) only [go_sem, ↓reduceIte, reduceCtorEq, Nat.reduceEqDiff, Nat.reduceAdd, Nat.reduceSub, Nat.reduceMul, Nat.reduceDiv, Nat.reduceMod, Nat.reduceLeDiff, Nat.reduceLT, Nat.reduceBEq, Int.reduceEq, Int.reduceBEq, Int.reduceBNe, Int.reduceLT, Int.reduceLE, Int.reduceAdd, Int.reduceSub, Int.reduceNeg, Int.reduceToNat, Int.reducePow, Nat.reducePow, Int.reduceMul, Int.reduceDiv, ↓s_stats_Histogram_Quantile_b0, h, hf, hv_45]
  | d + 1, i, r, hi, hr => by
    have h : (i : Int) < 42 := by omega
    have h' : i < 42 := by omega
    have hk := hx.bk i h'
    have hix := bk_ix x h'
    have ih := l_Quantile x b p H hf hx hp K d (i + 1) (r + x.bk i) (by omega) (by omega)
    rw [Int.natCast_add] at ih
    have hm : ∀ ox oy, xbin Try.prog .mul T.int ox oy (.int .i64 p) (.int .i64 x.c) = some (.int .i64 (p * x.c)) := fun ox oy => by
      have h1 : p * x.c ≤ 1000 * 1099511627776 := Int.mul_le_mul hp.2 hx.c.2 hx.c.1 (by decide)
      have h2 : 0 ≤ p * x.c := Int.mul_nonneg hp.1 hx.c.1
      exact mul_i64 (by omega)
    obtain ⟨R, hR⟩ : ∃ R, r + x.bk i = R := ⟨_, rfl⟩
    rw [r_stats_Histogram_Quantile_0, qtL]
    rw [hR] at ih ⊢
    by_cases hp0 : 0 < x.bk i
    · by_cases hq : p * x.c ≤ 1000 * R
      · rw [if_pos ⟨hp0, hq⟩]
        simp (disch := first | with_reducible rfl | assumption | omega | rfl | (simp only [go_sem]; first | done | omega)) only [go_sem, ↓reduceIte, reduceCtorEq, Nat.reduceEqDiff, Nat.reduceAdd, Nat.reduceSub, Nat.reduceMul, Nat.reduceDiv, Nat.reduceMod, Nat.reduceLeDiff, Nat.reduceLT, Nat.reduceBEq, Int.reduceEq, Int.reduceBEq, Int.reduceBNe, Int.reduceLT, Int.reduceLE, Int.reduceAdd, Int.reduceSub, Int.reduceNeg, Int.reduceToNat, Int.reducePow, Nat.reducePow, Int.reduceMul, Int.reduceDiv, ↓s_stats_Histogram_Quantile_b0, h, hf, hix, hR, hp0, hm, decide_eq_true hq, enterK_eq (q_Bounds i (by omega) H), hv_45]
      · rw [if_neg fun h => hq h.2]
        simp (disch := first | with_reducible rfl | assumption | omega | rfl | (simp only [go_sem]; first | done | omega)) only [go_sem, ↓reduceIte, reduceCtorEq, Nat.reduceEqDiff, Nat.reduceAdd, Nat.reduceSub, Nat.reduceMul, Nat.reduceDiv, Nat.reduceMod, Nat.reduceLeDiff, Nat.reduceLT, Nat.reduceBEq, Int.reduceEq, Int.reduceBEq, Int.reduceBNe, Int.reduceLT, Int.reduceLE, Int.reduceAdd, Int.reduceSub, Int.reduceNeg, Int.reduceToNat, Int.reducePow, Nat.reducePow, Int.reduceMul, Int.reduceDiv, ↓s_stats_Histogram_Quantile_b0, h, hf, hix, hR, hp0, hm, decide_eq_false hq]
        exact ih
    · rw [if_neg fun h => hp0 h.1]
      simp (disch := first | with_reducible rfl | assumption | omega | rfl | (simp only [go_sem]; first | done | omega)) only [go_sem, ↓reduceIte, reduceCtorEq, Nat.reduceEqDiff, Nat.reduceAdd, Nat.reduceSub, Nat.reduceMul, Nat.reduceDiv, Nat.reduceMod, Nat.reduceLeDiff, Nat.reduceLT, Nat.reduceBEq, Int.reduceEq, Int.reduceBEq, Int.reduceBNe, Int.reduceLT, Int.reduceLE, Int.reduceAdd, Int.reduceSub, Int.reduceNeg, Int.reduceToNat, Int.reducePow, Nat.reducePow, Int.reduceMul, Int.reduceDiv, ↓s_stats_Histogram_Quantile_b0, h, hf, hix, hR, hp0]
      exact ih
theorem q_Quantile (x : Hi) (b : Nat) (p : Int) (H : AHeap) (hf : H.f b = HB x) (hx : OkI x) (hp : 0 ≤ p ∧ p ≤ 1000) : CC F.stats_Histogram_Quantile [.pointer (some ⟨b, 0, none⟩), .int .i64 p] H = some (.tuple ⟨[.int .i64 (if empB x = true then 0 else qtL x p 42 0 0), .int .i64 (if empB x = true then 9 else 0)]⟩, H) := by
  have e := q_check x b H hf
  have h1 : ¬ p < 0 := by omega
  have h2 : ¬ 1000 < p := by omega
  cases hE : empB x <;> rw [hE] at e
  · rw [if_neg (by decide)] at e
    have hl := l_Quantile x b p H hf hx hp (endK Try.prog [.tmp 4, .tmp 5]) 42 0 0 rfl (by omega)
    apply pure_of _ (d_stats_Histogram_Quantile _ _ H) rfl
    rotate_left 2
    · simp (disch := first | with_reducible rfl | assumption | omega | rfl | (simp only [go_sem]; first | done | omega)) only [go_sem, ↓reduceIte, reduceCtorEq, Nat.reduceEqDiff, Nat.reduceAdd, Nat.reduceSub, Nat.reduceMul, Nat.reduceDiv, Nat.reduceMod, Nat.reduceLeDiff, Nat.reduceLT, Nat.reduceBEq, Int.reduceEq, Int.reduceBEq, Int.reduceBNe, Int.reduceLT, Int.reduceLE, Int.reduceAdd, Int.reduceSub, Int.reduceNeg, Int.reduceToNat, Int.reducePow, Nat.reducePow, Int.reduceMul, Int.reduceDiv, ↓s_stats_Histogram_Quantile, ↓enterK_eq e, enterK_eq e, hf, h1, h2]
      first | exact hl | (rw [hl]; rfl)
    · (repeat (first | exact Fr.refl _ | refine Fr.push ?_ _ | refine Fr.set ?_ _ _ (by intro h; first | omega | (simp only [go_sem] at h; omega))))
  · rw [if_pos rfl] at e
    apply pure_of _ (d_stats_Histogram_Quantile _ _ H) rfl
    rotate_left 2
    · simp (disch := first | with_reducible rfl | assumption | omega | rfl | (simp only [go_sem]; first | done | omega)) only [go_sem, ↓reduceIte, reduceCtorEq, Nat.reduceEqDiff, Nat.reduceAdd, Nat.reduceSub, Nat.reduceMul, Nat.reduceDiv, Nat.reduceMod, Nat.reduceLeDiff, Nat.reduceLT, Nat.reduceBEq, Int.reduceEq, Int.reduceBEq, Int.reduceBNe, Int.reduceLT, Int.reduceLE, Int.reduceAdd, Int.reduceSub, Int.reduceNeg, Int.reduceToNat, Int.reducePow, Nat.reducePow, Int.reduceMul, Int.reduceDiv, ↓s_stats_Histogram_Quantile, ↓enterK_eq e, enterK_eq e, h1, h2]
      rfl
    · (repeat (first | exact Fr.refl _ | refine Fr.push ?_ _ | refine Fr.set ?_ _ _ (by intro h; first | omega | (simp only [go_sem] at h; omega))))
theorem q_Quantile_bad (b : Nat) (p : Int) (H : AHeap) (hp : p < 0 ∨ 1000 < p) : CC F.stats_Histogram_Quantile [.pointer (some ⟨b, 0, none⟩), .int .i64 p] H = some (.tuple ⟨[.int .i64 0, .int .i64 2]⟩, H) := by
  by_cases h1 : p < 0
  · apply pure_of _ (d_stats_Histogram_Quantile _ _ H) rfl
    rotate_left 2
    · simp (disch := first | with_reducible rfl | assumption | omega | rfl | (simp only [go_sem]; first | done | omega)) only [go_sem, ↓reduceIte, reduceCtorEq, Nat.reduceEqDiff, Nat.reduceAdd, Nat.reduceSub, Nat.reduceMul, Nat.reduceDiv, Nat.reduceMod, Nat.reduceLeDiff, Nat.reduceLT, Nat.reduceBEq, Int.reduceEq, Int.reduceBEq, Int.reduceBNe, Int.reduceLT, Int.reduceLE, Int.reduceAdd, Int.reduceSub, Int.reduceNeg, Int.reduceToNat, Int.reducePow, Nat.reducePow, Int.reduceMul, Int.reduceDiv, ↓s_stats_Histogram_Quantile, h1]
      rfl
    · (repeat (first | exact Fr.refl _ | refine Fr.push ?_ _ | refine Fr.set ?_ _ _ (by intro h; first | omega | (simp only [go_sem] at h; omega))))
  · have h2 : 1000 < p := by omega
    apply pure_of _ (d_stats_Histogram_Quantile _ _ H) rfl
    rotate_left 2
    · simp (disch := first | with_reducible rfl | assumption | omega | rfl | (simp only [go_sem]; first | done | omega)) only [go_sem, ↓reduceIte, reduceCtorEq, Nat.reduceEqDiff, Nat.reduceAdd, Nat.reduceSub, Nat.reduceMul, Nat.reduceDiv, Nat.reduceMod, Nat.reduceLeDiff, Nat.reduceLT, Nat.reduceBEq, Int.reduceEq, Int.reduceBEq, Int.reduceBNe, Int.reduceLT, Int.reduceLE, Int.reduceAdd, Int.reduceSub, Int.reduceNeg, Int.reduceToNat, Int.reducePow, Nat.reducePow, Int.reduceMul, Int.reduceDiv, ↓s_stats_Histogram_Quantile, h1, h2]
      rfl
    · (repeat (first | exact Fr.refl _ | refine Fr.push ?_ _ | refine Fr.set ?_ _ _ (by intro h; first | omega | (simp only [go_sem] at h; omega))))

end Go.Proofs.Ytplblfcofplcmaa

/-
  Chapter 26: counting, merging; histograms as lists of numbers.
  Conditions: none. By an AI agent.
-/
set_option maxRecDepth 10000
set_option linter.unusedSimpArgs false
set_option linter.unusedVariables false
namespace Go.Proofs.Ytplblfcofplcmaa
open Go Eng

/-! ### lists -/
def mnL : List Nat → Nat
  | [] => 0
  | [a] => a
  | a :: b :: l => min a (mnL (b :: l))
def mxL : List Nat → Nat
  | [] => 0
  | a :: l => max a (mxL l)
def ofL (L : List Nat) : Hi := ⟨fun i => (L.countP fun n => lenN n == i : Nat), (L.length : Nat), (L.sum : Nat), (mnL L : Nat), (mxL L : Nat)⟩
def Low (L : List Nat) : Prop := ∀ n ∈ L, n ≤ 1099511627776

theorem mnL_cons {a : Nat} {l : List Nat} (h : l ≠ []) : mnL (a :: l) = min a (mnL l) := by
  cases l with
  | nil => exact absurd rfl h
  | cons b l => rfl
theorem mnL_append : ∀ {A B : List Nat}, A ≠ [] → B ≠ [] → mnL (A ++ B) = min (mnL A) (mnL B)
  | [], _, h, _ => absurd rfl h
  | [a], B, _, hB => by rw [List.singleton_append, mnL_cons hB]; rfl
  | a :: b :: A, B, _, hB => by
    have ih := mnL_append (A := b :: A) (B := B) (by simp) hB
    rw [List.cons_append, mnL_cons (l := b :: A ++ B) (by simp), ih, mnL_cons (l := b :: A) (by simp)]
    omega
theorem mxL_append : ∀ {A B : List Nat}, mxL (A ++ B) = max (mxL A) (mxL B)
  | [], B => by simp [mxL]
  | a :: A, B => by rw [List.cons_append, mxL, mxL, mxL_append]; omega
theorem mnL_mem : ∀ {L : List Nat}, L ≠ [] → mnL L ∈ L
  | [], h => absurd rfl h
  | [a], _ => by simp [mnL]
  | a :: b :: L, _ => by
    have ih := mnL_mem (L := b :: L) (by simp)
    rw [mnL]
    by_cases h : a ≤ mnL (b :: L)
    · rw [Nat.min_eq_left h]; simp
    · rw [Nat.min_eq_right (by omega)]; exact List.mem_cons_of_mem _ ih
theorem mnL_le : ∀ {L : List Nat} {n : Nat}, n ∈ L → mnL L ≤ n
  | [a], n, h => by simp [mnL] at *; omega
  | a :: b :: L, n, h => by
    rw [mnL]
    rcases List.mem_cons.1 h with rfl | h
    · omega
    · have := mnL_le (L := b :: L) h; omega
theorem mxL_mem : ∀ {L : List Nat}, L ≠ [] → mxL L ∈ L
  | [], h => absurd rfl h
  | [a], _ => by simp [mxL]
  | a :: b :: L, _ => by
    have ih := mxL_mem (L := b :: L) (by simp)
    rw [mxL]
    by_cases h : a ≤ mxL (b :: L)
    · rw [Nat.max_eq_right h]; exact List.mem_cons_of_mem _ ih
    · rw [Nat.max_eq_left (by omega)]; simp
theorem le_mxL : ∀ {L : List Nat} {n : Nat}, n ∈ L → n ≤ mxL L
  | a :: L, n, h => by
    rw [mxL]
    rcases List.mem_cons.1 h with rfl | h
    · omega
    · have := le_mxL h; omega
theorem ofL_perm {A B : List Nat} (h : A.Perm B) : ofL A = ofL B := by
  unfold ofL
  have e1 : mnL A = mnL B := by
    by_cases hA : A = []
    · subst hA; rw [List.Perm.eq_nil h.symm]
    · have hB : B ≠ [] := fun e => hA (by rw [e] at h; exact List.Perm.eq_nil h)
      exact Nat.le_antisymm (mnL_le (h.mem_iff.2 (mnL_mem hB))) (mnL_le (h.mem_iff.1 (mnL_mem hA)))
  have e2 : mxL A = mxL B := by
    by_cases hA : A = []
    · subst hA; rw [List.Perm.eq_nil h.symm]
    · have hB : B ≠ [] := fun e => hA (by rw [e] at h; exact List.Perm.eq_nil h)
      exact Nat.le_antisymm (le_mxL (h.mem_iff.1 (mxL_mem hA))) (le_mxL (h.mem_iff.2 (mxL_mem hB)))
  rw [e1, e2, h.length_eq, h.sum_nat]
  congr 1
  funext i
  rw [h.countP_eq]

theorem low_app {A B : List Nat} : Low (A ++ B) ↔ Low A ∧ Low B := by
  constructor
  · intro h; exact ⟨fun n hn => h n (by simp [hn]), fun n hn => h n (by simp [hn])⟩
  · rintro ⟨h1, h2⟩ n hn
    rcases List.mem_append.1 hn with h | h
    · exact h1 n h
    · exact h2 n h
theorem bk_top {L : List Nat} (h : Low L) {i : Nat} (hi : 42 ≤ i) : (ofL L).bk i = 0 := by
  show ((L.countP fun n => lenN n == i : Nat) : Int) = 0
  have : L.countP (fun n => lenN n == i) = 0 := List.countP_eq_zero.2 fun n hn => by
    have := lenN_le (h n hn)
    simp; omega
  rw [this]; rfl
theorem emp_ofL {L : List Nat} (h : Low L) : empB (ofL L) = L.isEmpty := by
  cases L with
  | nil => decide
  | cons a l =>
    have ha := lenN_le (h a (by simp))
    show empB _ = false
    unfold empB sameB
    rw [List.all_eq_false]
    refine ⟨lenN a, List.mem_range.2 (by omega), ?_⟩
    have : 0 < (a :: l).countP (fun n => lenN n == lenN a) := List.countP_pos_iff.2 ⟨a, by simp, by simp⟩
    show ¬ decide (((a :: l).countP (fun n => lenN n == lenN a) : Int) = 0) = true
    rw [decide_eq_true_eq]
    omega
theorem ok_ofL {L : List Nat} (h1 : L.length ≤ 1099511627776) (h2 : L.sum ≤ 4611686018427387904) : OkI (ofL L) :=
  ⟨fun i _ => by have : L.countP (fun n => lenN n == i) ≤ L.length := List.countP_le_length; show 0 ≤ ((L.countP fun n => lenN n == i : Nat) : Int) ∧ ((L.countP fun n => lenN n == i : Nat) : Int) ≤ _; omega,
    by show 0 ≤ (L.length : Int) ∧ (L.length : Int) ≤ _; omega, by show 0 ≤ (L.sum : Int) ∧ (L.sum : Int) ≤ _; omega⟩
theorem join_ofL {A B : List Nat} (hA : Low A) (hB : Low B) (hn : B ≠ []) : joinH (ofL A) (ofL B) = ofL (A ++ B) := by
  unfold joinH
  rw [emp_ofL hA]
  have e1 : (fun j => if j < 42 then (ofL A).bk j + (ofL B).bk j else (ofL A).bk j) = (ofL (A ++ B)).bk := by
    funext j
    have e : (ofL (A ++ B)).bk j = (ofL A).bk j + (ofL B).bk j := by
      show (((A ++ B).countP fun n => lenN n == j : Nat) : Int) = ((A.countP fun n => lenN n == j : Nat) : Int) + ((B.countP fun n => lenN n == j : Nat) : Int)
      rw [List.countP_append]; omega
    rw [e]
    split
    · rfl
    · rw [bk_top hB (by omega)]; omega
  rw [e1]
  have e2 : (ofL A).c + (ofL B).c = (ofL (A ++ B)).c := by simp [ofL]
  have e3 : (ofL A).s + (ofL B).s = (ofL (A ++ B)).s := by simp [ofL]
  have e4 : max (ofL A).h (ofL B).h = (ofL (A ++ B)).h := by simp only [ofL, mxL_append]; omega
  have e5 : min (if A.isEmpty = true then (ofL B).l else (ofL A).l) (ofL B).l = (ofL (A ++ B)).l := by
    cases A with
    | nil => simp [ofL]
    | cons a l => simp only [List.isEmpty_cons, Bool.false_eq_true, if_false, ofL, mnL_append (show a :: l ≠ [] by simp) hn]; omega
  rw [e2, e3, e4, e5]

def oneH (n t : Nat) : Hi := ⟨upd (fun _ => 0) (lenN n) t, t, ((n * t : Nat) : Int), n, n⟩
theorem one_ofL {n t : Nat} (ht : 0 < t) : oneH n t = ofL (List.replicate t n) := by
  unfold oneH ofL
  have e1 : upd (fun _ => 0) (lenN n) (t : Int) = fun i => (((List.replicate t n).countP fun n => lenN n == i : Nat) : Int) := by
    funext i
    unfold upd
    rw [List.countP_replicate]
    by_cases h : i = lenN n
    · subst h; simp
    · have : ¬ lenN n = i := fun e => h e.symm
      simp [h, this]
  have e2 : mnL (List.replicate t n) = n := by
    have := mnL_mem (L := List.replicate t n) (by intro h; have := congrArg List.length h; simp at this; omega)
    exact List.eq_of_mem_replicate this
  have e3 : mxL (List.replicate t n) = n := by
    have := mxL_mem (L := List.replicate t n) (by intro h; have := congrArg List.length h; simp at this; omega)
    exact List.eq_of_mem_replicate this
  rw [e1, e2, e3, List.length_replicate, List.sum_replicate_nat, Nat.mul_comm]

/-! ### counting -/
theorem bareK_congr {x y : Option Value} {H : AHeap} {k : Value → AHeap → Res} (h : x = y) : bareK x H k = bareK y H k := by rw [h]
theorem bothK_congr {x y : Option (Value × AHeap)} {k : Value → AHeap → Res} (h : x = y) : bothK x k = bothK y k := by rw [h]
section
attribute [local congr] bareK_congr bothK_congr
attribute [-go_sem] bldS

theorem q_Add (x : Hi) (b n t : Nat) (H : AHeap) (hf : H.f b = HB x) (hb : b < H.n) (ok : ∀ b, H.ver b < H.clk) (hx : OkI x) (hn : n ≤ 1099511627776) (ht : 0 < t) (ht2 : t ≤ 1099511627776) (hnt : n * t ≤ 4611686018427387904)
    (f1 : ¬ 1099511627776 - x.c < t) (f2 : ¬ 4611686018427387904 - x.s < ((n * t : Nat) : Int)) :
    ∃ H', CC F.stats_Histogram_Add [.pointer (some ⟨b, 0, none⟩), .int .i64 (n : Int), .int .i64 (t : Int)] H = some (.int .i64 0, H') ∧ H'.f b = HB (joinH x (oneH n t)) ∧ Fr (fun c => c = b) H H' ∧ H.clk ≤ H'.ver b := by
  have hl := lenN_le hn
  obtain ⟨H1, hH1⟩ : ∃ H1, H.push (HB zHi) = H1 := ⟨_, rfl⟩
  have s1 : Still H H1 := by rw [← hH1]; exact (Fr.refl H).push _
  have g1 : H1.f H.n = HB zHi := by rw [← hH1]; exact push_f_eq rfl
  have g1b : H1.f b = HB x := by rw [← hH1, push_f_ne (by omega)]; exact hf
  have hst := st_hv zHi ⟨fun _ => 0, t, ((n * t : Nat) : Int), n, n⟩ g1
  obtain ⟨H2, hH2⟩ : ∃ H2, H1.set H.n (HB ⟨fun _ => 0, t, ((n * t : Nat) : Int), n, n⟩) = H2 := ⟨_, rfl⟩
  rw [hH2] at hst
  have g2 : H2.f H.n = HB ⟨fun _ => 0, t, ((n * t : Nat) : Int), n, n⟩ := by rw [← hH2]; exact set_f_eq
  have g2b : H2.f b = HB x := by rw [← hH2, set_f_ne (by omega), g1b]
  have s2 : Still H H2 := by rw [← hH2]; exact Fr.set s1 _ _ fun h => by omega
  obtain ⟨H3, hH3⟩ : ∃ H3, H2.set H.n (HB (oneH n t)) = H3 := ⟨_, rfl⟩
  have g3 : H3.f H.n = HB (oneH n t) := by rw [← hH3]; exact set_f_eq
  have g3b : H3.f b = HB x := by rw [← hH3, set_f_ne (by omega), g2b]
  have s3 : Still H H3 := by rw [← hH3]; exact Fr.set s2 _ _ fun h => by omega
  have hp : newv T.stats_Histogram (.agg #[(.int .i64 0), (.int .i64 0), (.int .i64 0), (.int .i64 0), (.int .i64 0), (.int .i64 0), (.int .i64 0), (.int .i64 0), (.int .i64 0), (.int .i64 0), (.int .i64 0), (.int .i64 0), (.int .i64 0), (.int .i64 0), (.int .i64 0), (.int .i64 0), (.int .i64 0), (.int .i64 0), (.int .i64 0), (.int .i64 0), (.int .i64 0), (.int .i64 0), (.int .i64 0), (.int .i64 0), (.int .i64 0), (.int .i64 0), (.int .i64 0), (.int .i64 0), (.int .i64 0), (.int .i64 0), (.int .i64 0), (.int .i64 0), (.int .i64 0), (.int .i64 0), (.int .i64 0), (.int .i64 0), (.int .i64 0), (.int .i64 0), (.int .i64 0), (.int .i64 0), (.int .i64 0), (.int .i64 0), (.int .i64 0), (.int .i64 0), (.int .i64 0), (.int .i64 0)]) H = some (.pointer (some ⟨H.n, 0, none⟩), H1) := by rw [← hH1]; rfl
  have hone : OkI (oneH n t) := ⟨fun i _ => by simp only [oneH, upd]; split <;> omega, by simp only [oneH]; omega, by simp only [oneH]; omega⟩
  have hemp : empB (oneH n t) = false := by
    unfold empB sameB
    rw [List.all_eq_false]
    refine ⟨lenN n, List.mem_range.2 (by omega), ?_⟩
    simp only [oneH, upd, zHi, decide_eq_true_eq, if_true]
    omega
  obtain ⟨H4, hj, g4, fr4, v4⟩ := q_join x (oneH n t) b H3 g3b (Nat.lt_of_lt_of_le hb s3.n) (s3.ok ok) hx hone f1 f2 hemp
  have hseti := hv_seti ⟨fun _ => 0, t, ((n * t : Nat) : Int), n, n⟩ (show lenN n < 42 by omega) t
  have hlt : (0 : Int) ≤ (lenN n : Int) ∧ (lenN n : Int) < (42 : Nat) := by omega
  have hbu := q_Bucket n hn H
  have h1 : ¬ (t : Int) < 0 := by omega
  have h2 : ¬ (1099511627776 : Int) < (t : Int) := by omega
  have h3 : ¬ (t : Int) = 0 := by omega
  have hm : ∀ ox oy, xbin Try.prog .mul T.int ox oy (.int .i64 (n : Int)) (.int .i64 (t : Int)) = some (.int .i64 ((n * t : Nat) : Int)) := fun ox oy => mulN (by omega)
  have fr : Fr (fun c => c = b) H H4 := s3.still.trans fr4
  have hld : cutB (HB (oneH n t)) 0 46 = some (hv (oneH n t)) := rfl
  have hbl := bld_hv (t : Int) ((n * t : Nat) : Int) (n : Int) (n : Int)
  have hH3' : H2.set H.n (.cells (hv ⟨upd (fun _ => 0) (lenN n) (t : Int), (t : Int), ((n * t : Nat) : Int), (n : Int), (n : Int)⟩) T.stats_Histogram true) = H3 := hH3
  obtain ⟨nt, hnt'⟩ : ∃ nt : Int, ((n * t : Nat) : Int) = nt := ⟨_, rfl⟩
  have hjj := hj
  refine ⟨H4, (d_stats_Histogram_Add _ _ _ H (r := (.int .i64 0, H4)) ?_).trans (congrArg some (tidy_turned hb (ok b) (Nat.le_trans s3.clk v4))), g4, fr, Nat.le_trans s3.clk v4⟩
  by_cases hn0 : n = 0
  · have h4 : ¬ (0 : Int) < (n : Int) := by omega
    simp (disch := first | with_reducible rfl | assumption | omega | rfl | (simp only [go_sem]; first | done | omega)) only [go_sem, ↓reduceIte, reduceCtorEq, Nat.reduceEqDiff, Nat.reduceAdd, Nat.reduceSub, Nat.reduceMul, Nat.reduceDiv, Nat.reduceMod, Nat.reduceLeDiff, Nat.reduceLT, Nat.reduceBEq, Int.reduceEq, Int.reduceBEq, Int.reduceBNe, Int.reduceLT, Int.reduceLE, Int.reduceAdd, Int.reduceSub, Int.reduceNeg, Int.reduceToNat, Int.reducePow, Nat.reducePow, Int.reduceMul, Int.reduceDiv, ↓s_stats_Histogram_Add, ↓enterK_eq hbu, enterK_eq hbu, h1, h2, h3, h4, ↓hm, hm, ↓hbl, hbl, ↓hp, hp, ↓hst, hst, g2, hlt, hseti, hH3', g3, hld, ↓enterK_eq hj, enterK_eq hj, Int.toNat_natCast, Nat.zero_add, Nat.mul_one]
  · have h4 : (0 : Int) < (n : Int) := by omega
    have hq : ∀ ox oy, xbin Try.prog .quo T.int ox oy (.int .i64 4611686018427387904) (.int .i64 (n : Int)) = some (.int .i64 (4611686018427387904 / (n : Int))) := fun ox oy => quoI (by decide) h4 (by decide)
    have h5 : ¬ (4611686018427387904 : Int) / (n : Int) < (t : Int) := by
      have : (t : Int) ≤ 4611686018427387904 / (n : Int) := (Int.le_ediv_iff_mul_le h4).2 (by rw [Int.mul_comm]; omega)
      omega
    simp (disch := first | with_reducible rfl | assumption | omega | rfl | (simp only [go_sem]; first | done | omega)) only [go_sem, ↓reduceIte, reduceCtorEq, Nat.reduceEqDiff, Nat.reduceAdd, Nat.reduceSub, Nat.reduceMul, Nat.reduceDiv, Nat.reduceMod, Nat.reduceLeDiff, Nat.reduceLT, Nat.reduceBEq, Int.reduceEq, Int.reduceBEq, Int.reduceBNe, Int.reduceLT, Int.reduceLE, Int.reduceAdd, Int.reduceSub, Int.reduceNeg, Int.reduceToNat, Int.reducePow, Nat.reducePow, Int.reduceMul, Int.reduceDiv, ↓s_stats_Histogram_Add, ↓enterK_eq hbu, enterK_eq hbu, h1, h2, h3, h4, ↓hq, hq, decide_eq_false h5, ↓hm, hm, ↓hbl, hbl, ↓hp, hp, ↓hst, hst, g2, hlt, hseti, hH3', g3, hld, ↓enterK_eq hj, enterK_eq hj, Int.toNat_natCast, Nat.zero_add, Nat.mul_one]

end

theorem q_Add_zero (b : Nat) (n : Nat) (H : AHeap) (hn : n ≤ 1099511627776) : CC F.stats_Histogram_Add [.pointer (some ⟨b, 0, none⟩), .int .i64 (n : Int), .int .i64 0] H = some (.int .i64 0, H) := by
  have hbu := q_Bucket n hn H
  apply pure_of _ (d_stats_Histogram_Add _ _ _ H) rfl
  rotate_left 2
  · simp (disch := first | with_reducible rfl | assumption | omega | rfl | (simp only [go_sem]; first | done | omega)) only [go_sem, ↓reduceIte, reduceCtorEq, Nat.reduceEqDiff, Nat.reduceAdd, Nat.reduceSub, Nat.reduceMul, Nat.reduceDiv, Nat.reduceMod, Nat.reduceLeDiff, Nat.reduceLT, Nat.reduceBEq, Int.reduceEq, Int.reduceBEq, Int.reduceBNe, Int.reduceLT, Int.reduceLE, Int.reduceAdd, Int.reduceSub, Int.reduceNeg, Int.reduceToNat, Int.reducePow, Nat.reducePow, Int.reduceMul, Int.reduceDiv, ↓s_stats_Histogram_Add, ↓enterK_eq hbu, enterK_eq hbu]
    rfl
  · (repeat (first | exact Fr.refl _ | refine Fr.push ?_ _ | refine Fr.set ?_ _ _ (by intro h; first | omega | (simp only [go_sem] at h; omega))))

/-- Counting, as lists. -/
theorem q_lAdd (L : List Nat) (b n t : Nat) (H : AHeap) (hf : H.f b = HB (ofL L)) (hb : b < H.n) (ok : ∀ b, H.ver b < H.clk) (hL : Low L) (hn : n ≤ 1099511627776) (h1 : L.length + t ≤ 1099511627776) (h2 : L.sum + n * t ≤ 4611686018427387904) :
    ∃ H', CC F.stats_Histogram_Add [.pointer (some ⟨b, 0, none⟩), .int .i64 (n : Int), .int .i64 (t : Int)] H = some (.int .i64 0, H') ∧ H'.f b = HB (ofL (L ++ List.replicate t n)) ∧ Fr (fun c => c = b) H H' := by
  by_cases ht : t = 0
  · subst ht
    exact ⟨H, q_Add_zero b n H hn, by simpa using hf, Fr.refl H⟩
  · have hr : List.replicate t n ≠ [] := by intro h; have := congrArg List.length h; simp at this; omega
    obtain ⟨H', hc, hf', fr, _⟩ := q_Add (ofL L) b n t H hf hb ok (ok_ofL (by omega) (by omega)) hn (by omega) (by omega) (by omega) (by show ¬ 1099511627776 - (L.length : Int) < t; omega) (by show ¬ 4611686018427387904 - (L.sum : Int) < _; omega)
    refine ⟨H', hc, ?_, fr⟩
    rw [hf', one_ofL (by omega), join_ofL hL (fun m hm => by rw [List.eq_of_mem_replicate hm]; exact hn) hr]

theorem q_lMerge (A B : List Nat) (a b : Nat) (H : AHeap) (ha : H.f a = HB (ofL A)) (hb : H.f b = HB (ofL B)) (han : a < H.n) (ok : ∀ b, H.ver b < H.clk) (hA : Low A) (hB : Low B) (h1 : A.length + B.length ≤ 1099511627776) (h2 : A.sum + B.sum ≤ 4611686018427387904) :
    ∃ H', CC F.stats_Histogram_Merge [.pointer (some ⟨a, 0, none⟩), .pointer (some ⟨b, 0, none⟩)] H = some (.int .i64 0, H') ∧ H'.f a = HB (ofL (A ++ B)) ∧ Fr (fun c => c = a) H H' := by
  have hld : cutB (HB (ofL B)) 0 46 = some (hv (ofL B)) := rfl
  have oA := ok_ofL (L := A) (by omega) (by omega)
  have oB := ok_ofL (L := B) (by omega) (by omega)
  have f1 : ¬ 1099511627776 - (ofL A).c < (ofL B).c := by show ¬ 1099511627776 - (A.length : Int) < (B.length : Int); omega
  have f2 : ¬ 4611686018427387904 - (ofL A).s < (ofL B).s := by show ¬ 4611686018427387904 - (A.sum : Int) < (B.sum : Int); omega
  by_cases hn : B = []
  · subst hn
    have hj := q_join_empty (ofL A) (ofL []) a H ha han oA oB f1 f2 (emp_ofL hB)
    refine ⟨H, ?_, by simpa using ha, Fr.refl H⟩
    apply pure_of _ (d_stats_Histogram_Merge _ _ H) rfl
    rotate_left 2
    · simp (disch := first | with_reducible rfl | assumption | omega | rfl | (simp only [go_sem]; first | done | omega)) only [go_sem, ↓reduceIte, reduceCtorEq, Nat.reduceEqDiff, Nat.reduceAdd, Nat.reduceSub, Nat.reduceMul, Nat.reduceDiv, Nat.reduceMod, Nat.reduceLeDiff, Nat.reduceLT, Nat.reduceBEq, Int.reduceEq, Int.reduceBEq, Int.reduceBNe, Int.reduceLT, Int.reduceLE, Int.reduceAdd, Int.reduceSub, Int.reduceNeg, Int.reduceToNat, Int.reducePow, Nat.reducePow, Int.reduceMul, Int.reduceDiv, ↓s_stats_Histogram_Merge, hb, hld, ↓enterK_eq hj, enterK_eq hj]
      rfl
    · (repeat (first | exact Fr.refl _ | refine Fr.push ?_ _ | refine Fr.set ?_ _ _ (by intro h; first | omega | (simp only [go_sem] at h; omega))))
  · have he : empB (ofL B) = false := by rw [emp_ofL hB]; cases B with | nil => exact absurd rfl hn | cons _ _ => rfl
    obtain ⟨H', hj, hf', fr, hv'⟩ := q_join (ofL A) (ofL B) a H ha han ok oA oB f1 f2 he
    refine ⟨H', (d_stats_Histogram_Merge _ _ H (r := (.int .i64 0, H')) ?_).trans (congrArg some (tidy_turned han (ok a) hv')), by rw [hf', join_ofL hA hB hn], fr⟩
    simp (disch := first | with_reducible rfl | assumption | omega | rfl | (simp only [go_sem]; first | done | omega)) only [go_sem, ↓reduceIte, reduceCtorEq, Nat.reduceEqDiff, Nat.reduceAdd, Nat.reduceSub, Nat.reduceMul, Nat.reduceDiv, Nat.reduceMod, Nat.reduceLeDiff, Nat.reduceLT, Nat.reduceBEq, Int.reduceEq, Int.reduceBEq, Int.reduceBNe, Int.reduceLT, Int.reduceLE, Int.reduceAdd, Int.reduceSub, Int.reduceNeg, Int.reduceToNat, Int.reducePow, Nat.reducePow, Int.reduceMul, Int.reduceDiv, ↓s_stats_Histogram_Merge, hb, hld, ↓enterK_eq hj, enterK_eq hj]

end Go.Proofs.Ytplblfcofplcmaa

/-
  Chapter 26: plain laws of histograms as lists: means, sums, quantiles.
  Conditions: none. By an AI agent.
-/
set_option maxRecDepth 10000
set_option linter.unusedSimpArgs false
set_option linter.unusedVariables false
namespace Go.Proofs.Ytplblfcofplcmaa
open Go Eng

theorem low_sum : ∀ {L : List Nat}, Low L → L.sum ≤ L.length * 1099511627776
  | [], _ => by simp
  | a :: L, h => by
    have := h a (by simp)
    have := low_sum (L := L) fun n hn => h n (by simp [hn])
    rw [List.sum_cons, List.length_cons]
    omega
theorem mn_sum : ∀ {L : List Nat} {m : Nat}, (∀ n ∈ L, m ≤ n) → m * L.length ≤ L.sum
  | [], _, _ => by simp
  | a :: L, m, h => by
    have h1 := h a (by simp)
    have h2 := mn_sum (L := L) (m := m) fun n hn => h n (by simp [hn])
    rw [List.sum_cons, List.length_cons, Nat.mul_succ]
    omega
theorem mx_sum : ∀ {L : List Nat} {m : Nat}, (∀ n ∈ L, n ≤ m) → L.sum ≤ m * L.length
  | [], _, _ => by simp
  | a :: L, m, h => by
    have h1 := h a (by simp)
    have h2 := mx_sum (L := L) (m := m) fun n hn => h n (by simp [hn])
    rw [List.sum_cons, List.length_cons, Nat.mul_succ]
    omega
theorem mean_ok {L : List Nat} (h : L ≠ []) : (ofL L).l ≤ (ofL L).s / (ofL L).c ∧ (ofL L).s / (ofL L).c ≤ (ofL L).h := by
  have hp : 0 < L.length := List.length_pos_iff.2 h
  have h1 := mn_sum (L := L) (m := mnL L) fun n hn => mnL_le hn
  have h2 := mx_sum (L := L) (m := mxL L) fun n hn => le_mxL hn
  show ((mnL L : Nat) : Int) ≤ ((L.sum : Nat) : Int) / ((L.length : Nat) : Int) ∧ ((L.sum : Nat) : Int) / ((L.length : Nat) : Int) ≤ ((mxL L : Nat) : Int)
  rw [← Int.natCast_ediv]
  have a1 := (Nat.le_div_iff_mul_le hp).2 h1
  have a2 : L.sum / L.length ≤ mxL L := Nat.div_le_of_le_mul (by rw [Nat.mul_comm]; exact h2)
  omega

/-! ### the sum of the buckets -/
def sumB (f : Nat → Int) : Nat → Int
  | 0 => 0
  | d + 1 => sumB f d + f d
theorem sumB_add (f g : Nat → Int) : ∀ d, sumB (fun i => f i + g i) d = sumB f d + sumB g d
  | 0 => rfl
  | d + 1 => by simp only [sumB, sumB_add f g d]; omega
theorem sumB_ind (m : Nat) : ∀ d, sumB (fun i => if m = i then 1 else 0) d = if m < d then 1 else 0
  | 0 => rfl
  | d + 1 => by
    simp only [sumB, sumB_ind m d]
    by_cases h1 : m < d
    · rw [if_pos h1, if_neg (by omega), if_pos (by omega)]; rfl
    · rw [if_neg h1]
      by_cases h2 : m = d
      · rw [if_pos h2, if_pos (by omega)]; rfl
      · rw [if_neg h2, if_neg (by omega)]; rfl
theorem sumB_zero : ∀ d, sumB (fun _ => 0) d = 0
  | 0 => rfl
  | d + 1 => by simp only [sumB, sumB_zero d]; rfl
theorem sumB_ofL : ∀ {L : List Nat}, Low L → sumB (ofL L).bk 42 = (L.length : Int)
  | [], _ => sumB_zero 42
  | a :: L, h => by
    have ih := sumB_ofL (L := L) fun n hn => h n (by simp [hn])
    have ha := lenN_le (h a (by simp))
    have e : (ofL (a :: L)).bk = fun i => (ofL L).bk i + (if lenN a = i then 1 else 0) := by
      funext i
      show (((a :: L).countP fun n => lenN n == i : Nat) : Int) = ((L.countP fun n => lenN n == i : Nat) : Int) + _
      rw [List.countP_cons]
      by_cases hi : lenN a = i
      · simp [hi]
      · simp [hi]
    rw [e, sumB_add, ih, sumB_ind, if_pos (by omega), List.length_cons]
    omega
theorem sumB_le {f : Nat → Int} {M : Int} (h : ∀ i, i < 42 → 0 ≤ f i ∧ f i ≤ M) : ∀ d, d ≤ 42 → 0 ≤ sumB f d ∧ sumB f d ≤ d * M
  | 0, _ => by simp [sumB]
  | d + 1, hd => by
    have ih := sumB_le h d (by omega)
    have := h d (by omega)
    simp only [sumB]
    rw [Int.natCast_add, Int.add_mul]
    omega

/-! ### quantiles -/
theorem hi_mono {i j : Nat} (h : i ≤ j) : hiN i ≤ hiN j := by
  unfold hiN
  by_cases h0 : i = 0
  · rw [if_pos h0]; omega
  · rw [if_neg h0, if_neg (by omega)]
    have := Nat.pow_le_pow_right (n := 2) (by decide) h
    omega
theorem qt_le (x : Hi) (p : Int) : ∀ d i r, qtL x p d i r ≤ x.h
  | 0, _, _ => Int.le_refl _
  | d + 1, i, r => by
    rw [qtL]
    split
    · omega
    · exact qt_le x p d _ _
theorem qt_ge (x : Hi) (p : Int) (k : Nat) : ∀ d i r, k ≤ i → min (hiN k : Int) x.h ≤ qtL x p d i r
  | 0, _, _, _ => by rw [qtL]; omega
  | d + 1, i, r, h => by
    rw [qtL]
    have := hi_mono h
    split
    · omega
    · exact qt_ge x p k d _ _ (by omega)
theorem qt_mono (x : Hi) (hc : 0 ≤ x.c) {p q : Int} (h : p ≤ q) : ∀ d i r, qtL x p d i r ≤ qtL x q d i r
  | 0, _, _ => Int.le_refl _
  | d + 1, i, r => by
    have hm : p * x.c ≤ q * x.c := Int.mul_le_mul_of_nonneg_right h hc
    rw [qtL, qtL]
    by_cases h1 : 0 < x.bk i ∧ q * x.c ≤ 1000 * (r + x.bk i)
    · rw [if_pos h1, if_pos ⟨h1.1, by omega⟩]; omega
    · rw [if_neg h1]
      by_cases h2 : 0 < x.bk i ∧ p * x.c ≤ 1000 * (r + x.bk i)
      · rw [if_pos h2]
        exact qt_ge x q i d _ _ (by omega)
      · rw [if_neg h2]
        exact qt_mono x hc h d _ _
theorem qt_pos (x : Hi) (hh : 0 ≤ x.h) (p : Int) : ∀ d i r, 0 ≤ qtL x p d i r
  | 0, _, _ => hh
  | d + 1, i, r => by
    rw [qtL]
    split
    · omega
    · exact qt_pos x hh p d _ _
theorem lenN_mono {a b : Nat} (h : a ≤ b) : lenN a ≤ lenN b := by
  by_cases ha : a = 0
  · subst ha; exact Nat.zero_le _
  · obtain ⟨c, e, h1, h2⟩ := lenN_spec ha
    obtain ⟨c', e', h1', h2'⟩ := lenN_spec (x := b) (by omega)
    rw [e, e']
    by_cases hc : c ≤ c'
    · omega
    · exfalso
      have := Nat.pow_le_pow_right (n := 2) (by decide) (show c' + 1 ≤ c by omega)
      omega
def below (L : List Nat) (i : Nat) : Nat := L.countP fun n => decide (lenN n < i)
theorem below_succ (L : List Nat) (i : Nat) : below L (i + 1) = below L i + L.countP fun n => lenN n == i := by
  unfold below
  induction L with
  | nil => rfl
  | cons a L ih =>
    simp only [List.countP_cons, ih]
    by_cases h1 : lenN a < i
    · have : ¬ lenN a = i := by omega
      simp [h1, this, show lenN a < i + 1 by omega]; omega
    · by_cases h2 : lenN a = i
      · simp [h2]; omega
      · simp [h1, h2, show ¬ lenN a < i + 1 by omega]
theorem qt_top {L : List Nat} (hL : Low L) (hn : L ≠ []) : ∀ d i, qtL (ofL L) 1000 d i (below L i) = (ofL L).h
  | 0, _ => rfl
  | d + 1, i => by
    rw [qtL]
    have e : ((below L i : Nat) : Int) + (ofL L).bk i = ((below L (i + 1) : Nat) : Int) := by rw [below_succ]; rfl
    rw [e]
    split
    · rename_i h
      have hc : L.length ≤ below L (i + 1) := by
        have : (1000 : Int) * (L.length : Int) ≤ 1000 * ((below L (i + 1) : Nat) : Int) := h.2
        omega
      have hall : ∀ n ∈ L, lenN n < i + 1 := fun n hn => by
        have := List.countP_eq_length.1 (Nat.le_antisymm List.countP_le_length hc) n hn
        simpa using this
      have hm := hall _ (mxL_mem hn)
      have hlow := hL _ (mxL_mem hn)
      have h1 := ((in_bucket hlow (lenN_le hlow)).2 rfl).2
      have h2 := hi_mono (show lenN (mxL L) ≤ i by omega)
      show min ((hiN i : Nat) : Int) ((mxL L : Nat) : Int) = ((mxL L : Nat) : Int)
      omega
    · exact qt_top hL hn d (i + 1)

/-! ### lists in turn -/
theorem flat_succ (f : Nat → List Nat) (k : Nat) : (List.range (k + 1)).flatMap f = (List.range k).flatMap f ++ f k := by
  rw [List.range_succ, List.flatMap_append]; simp
theorem flat_len {f : Nat → List Nat} (h : ∀ i, (f i).length ≤ 5) : ∀ k, ((List.range k).flatMap f).length ≤ 5 * k
  | 0 => by simp
  | k + 1 => by
    rw [flat_succ, List.length_append]
    have := flat_len h k
    have := h k
    omega
theorem flat_low {f : Nat → List Nat} (h : ∀ i, Low (f i)) (k : Nat) : Low ((List.range k).flatMap f) := by
  intro n hn
  obtain ⟨i, _, hi⟩ := List.mem_flatMap.1 hn
  exact h i n hi
theorem part_perm (f : Nat → List Nat) (p : Nat) : ∀ k, ((List.range k).flatMap (fun i => if i < p then f i else []) ++ (List.range k).flatMap (fun i => if i < p then [] else f i)).Perm ((List.range k).flatMap f)
  | 0 => .refl _
  | k + 1 => by
    have ih := part_perm f p k
    rw [flat_succ, flat_succ, flat_succ]
    rw [List.perm_iff_count] at ih ⊢
    intro a
    have := ih a
    simp only [List.count_append] at this ⊢
    by_cases h : k < p
    · simp only [h, if_true, List.count_nil]; omega
    · simp only [h, if_false, List.count_nil]; omega
theorem rot_mod {i t n : Nat} (hi : i < n) (ht : t < n) : (i + t) % n = if i + t < n then i + t else i + t - n := by
  split
  · rename_i h; exact Nat.mod_eq_of_lt h
  · rename_i h
    rw [Nat.mod_eq_sub_mod (by omega), Nat.mod_eq_of_lt (by omega)]
theorem turn_perm (f : Nat → List Nat) (t n : Nat) : ((List.range n).flatMap fun i => f ((i + t) % n)).Perm ((List.range n).flatMap f) := by
  by_cases hn : n = 0
  · subst hn; exact .refl _
  have ht : t % n < n := Nat.mod_lt _ (by omega)
  have e : ∀ i, i < n → (i + t) % n = if i + t % n < n then i + t % n else i + t % n - n := fun i hi => by
    rw [← Nat.add_mod_mod, rot_mod hi ht]
  have hp : ((List.range n).map fun i => (i + t) % n).Perm (List.range n) := by
    refine (List.perm_ext_iff_of_nodup ?_ List.nodup_range).2 fun j => ?_
    · rw [List.Nodup, List.pairwise_map]
      refine (List.nodup_range (n := n)).imp_of_mem fun {a b} ha hb hab => ?_
      have ha := List.mem_range.1 ha
      have hb := List.mem_range.1 hb
      rw [e a ha, e b hb]
      split <;> split <;> omega
    · constructor
      · intro h
        obtain ⟨i, hi, rfl⟩ := List.mem_map.1 h
        exact List.mem_range.2 (Nat.mod_lt _ (by omega))
      · intro h
        have hj := List.mem_range.1 h
        refine List.mem_map.2 ⟨if t % n ≤ j then j - t % n else j + n - t % n, List.mem_range.2 (by split <;> omega), ?_⟩
        rw [e _ (by split <;> omega)]
        split <;> split <;> omega
  have := hp.flatMap_right f
  rwa [List.flatMap_map] at this

end Go.Proofs.Ytplblfcofplcmaa

/-
  Chapter 26: counting and merging with all their errors; the reference's lists.
  Conditions: none. By an AI agent.
-/
set_option maxRecDepth 10000
set_option linter.unusedSimpArgs false
set_option linter.unusedVariables false
namespace Go.Proofs.Ytplblfcofplcmaa
open Go Eng

abbrev Co := Nat × Nat
def ex (L : List Co) : List Nat := L.flatMap fun p => List.replicate p.2 p.1
def cntR (L : List Co) : Nat := (L.map (·.2)).sum
def sumR (L : List Co) : Nat := (L.map fun p => p.1 * p.2).sum
def WfC (L : List Co) : Prop := ∀ p ∈ L, p.1 ≤ 1099511627776 ∧ 0 < p.2
structure Okc (L : List Co) : Prop where
  wf : WfC L
  c : cntR L ≤ 1099511627776
  s : sumR L ≤ 4611686018427387904

theorem ex_len : ∀ L, (ex L).length = cntR L
  | [] => rfl
  | p :: L => by
    have ih := ex_len L
    simp only [ex, cntR, List.flatMap_cons, List.length_append, List.length_replicate, List.map_cons, List.sum_cons] at *
    omega
theorem ex_sum : ∀ L, (ex L).sum = sumR L
  | [] => rfl
  | p :: L => by
    have ih := ex_sum L
    simp only [ex, sumR, List.flatMap_cons, List.sum_append_nat, List.sum_replicate_nat, List.map_cons, List.sum_cons] at *
    rw [ih, Nat.mul_comm]
theorem ex_low {L : List Co} (h : WfC L) : Low (ex L) := by
  intro n hn
  obtain ⟨p, hp, hn⟩ := List.mem_flatMap.1 hn
  rw [List.eq_of_mem_replicate hn]
  exact (h p hp).1
theorem ex_app (A B : List Co) : ex (A ++ B) = ex A ++ ex B := List.flatMap_append
theorem cnt_app (A B : List Co) : cntR (A ++ B) = cntR A + cntR B := by simp [cntR]
theorem sum_app (A B : List Co) : sumR (A ++ B) = sumR A + sumR B := by simp [sumR]
theorem ex_nil {L : List Co} (h : WfC L) : ex L = [] ↔ L = [] := by
  cases L with
  | nil => simp [ex]
  | cons p L =>
    have := (h p (by simp)).2
    have h2 := ex_len (p :: L)
    constructor
    · intro he
      rw [he] at h2
      simp [cntR] at h2
      omega
    · intro he; cases he

theorem Okc.low {L : List Co} (h : Okc L) : Low (ex L) := ex_low h.wf
theorem Okc.oki {L : List Co} (h : Okc L) : OkI (ofL (ex L)) := ok_ofL (by rw [ex_len]; exact h.c) (by rw [ex_sum]; exact h.s)
theorem Okc.app {A B : List Co} (hA : Okc A) (hB : Okc B) (h1 : cntR A + cntR B ≤ 1099511627776) (h2 : sumR A + sumR B ≤ 4611686018427387904) : Okc (A ++ B) :=
  ⟨fun p hp => (List.mem_append.1 hp).elim (hA.wf p) (hB.wf p), by rw [cnt_app]; exact h1, by rw [sum_app]; exact h2⟩

def fullA (L : List Co) (n t : Nat) : Bool := decide (1099511627776 < cntR L + t ∨ 4611686018427387904 < sumR L + n * t)
def badA (n t : Int) : Bool := decide (n < 0 ∨ 1099511627776 < n ∨ t < 0 ∨ 1099511627776 < t)
def addC (L : List Co) (n t : Int) : Int × List Co :=
  if badA n t = true then (2, L) else if t = 0 then (0, L) else if fullA L n.toNat t.toNat = true then (7, L) else (0, L ++ [(n.toNat, t.toNat)])

theorem okc_add {L : List Co} (h : Okc L) (n t : Int) : Okc (addC L n t).2 := by
  unfold addC
  by_cases h1 : badA n t = true
  · rw [if_pos h1]; exact h
  · rw [if_neg h1]
    have h1 : ¬ (n < 0 ∨ 1099511627776 < n ∨ t < 0 ∨ 1099511627776 < t) := by unfold badA at h1; simpa using h1
    by_cases h2 : t = 0
    · rw [if_pos h2]; exact h
    · rw [if_neg h2]
      by_cases h3 : fullA L n.toNat t.toNat = true
      · rw [if_pos h3]; exact h
      · rw [if_neg h3]
        have h3 : ¬ (1099511627776 < cntR L + t.toNat ∨ 4611686018427387904 < sumR L + n.toNat * t.toNat) := by unfold fullA at h3; simpa using h3
        refine ⟨fun p hp => ?_, ?_, ?_⟩
        · rcases List.mem_append.1 hp with hp | hp
          · exact h.wf p hp
          · obtain rfl : p = (n.toNat, t.toNat) := by simpa using hp
            simp only; omega
        · rw [cnt_app]; simp [cntR] at *; omega
        · rw [sum_app]; simp [sumR] at *; omega

/-! ### the program's -/
theorem q_Add_bad (b : Nat) (n t : Int) (H : AHeap) (h : badA n t = true) : CC F.stats_Histogram_Add [.pointer (some ⟨b, 0, none⟩), .int .i64 n, .int .i64 t] H = some (.int .i64 2, H) := by
  have h : n < 0 ∨ 1099511627776 < n ∨ t < 0 ∨ 1099511627776 < t := by unfold badA at h; simpa using h
  by_cases h1 : n < 0 ∨ 1099511627776 < n
  · have e := q_Bucket_bad n h1 H
    apply pure_of _ (d_stats_Histogram_Add _ _ _ H) rfl
    rotate_left 2
    · simp (disch := first | with_reducible rfl | assumption | omega | rfl | (simp only [go_sem]; first | done | omega)) only [go_sem, ↓reduceIte, reduceCtorEq, Nat.reduceEqDiff, Nat.reduceAdd, Nat.reduceSub, Nat.reduceMul, Nat.reduceDiv, Nat.reduceMod, Nat.reduceLeDiff, Nat.reduceLT, Nat.reduceBEq, Int.reduceEq, Int.reduceBEq, Int.reduceBNe, Int.reduceLT, Int.reduceLE, Int.reduceAdd, Int.reduceSub, Int.reduceNeg, Int.reduceToNat, Int.reducePow, Nat.reducePow, Int.reduceMul, Int.reduceDiv, ↓s_stats_Histogram_Add, ↓enterK_eq e, enterK_eq e]
      rfl
    · (repeat (first | exact Fr.refl _ | refine Fr.push ?_ _ | refine Fr.set ?_ _ _ (by intro h; first | omega | (simp only [go_sem] at h; omega))))
  · obtain ⟨k, rfl⟩ : ∃ k : Nat, n = (k : Int) := ⟨n.toNat, by omega⟩
    have e := q_Bucket k (by omega) H
    by_cases h2 : t < 0
    · apply pure_of _ (d_stats_Histogram_Add _ _ _ H) rfl
      rotate_left 2
      · simp (disch := first | with_reducible rfl | assumption | omega | rfl | (simp only [go_sem]; first | done | omega)) only [go_sem, ↓reduceIte, reduceCtorEq, Nat.reduceEqDiff, Nat.reduceAdd, Nat.reduceSub, Nat.reduceMul, Nat.reduceDiv, Nat.reduceMod, Nat.reduceLeDiff, Nat.reduceLT, Nat.reduceBEq, Int.reduceEq, Int.reduceBEq, Int.reduceBNe, Int.reduceLT, Int.reduceLE, Int.reduceAdd, Int.reduceSub, Int.reduceNeg, Int.reduceToNat, Int.reducePow, Nat.reducePow, Int.reduceMul, Int.reduceDiv, ↓s_stats_Histogram_Add, ↓enterK_eq e, enterK_eq e, h2]
        rfl
      · (repeat (first | exact Fr.refl _ | refine Fr.push ?_ _ | refine Fr.set ?_ _ _ (by intro h; first | omega | (simp only [go_sem] at h; omega))))
    · have h3 : 1099511627776 < t := by omega
      apply pure_of _ (d_stats_Histogram_Add _ _ _ H) rfl
      rotate_left 2
      · simp (disch := first | with_reducible rfl | assumption | omega | rfl | (simp only [go_sem]; first | done | omega)) only [go_sem, ↓reduceIte, reduceCtorEq, Nat.reduceEqDiff, Nat.reduceAdd, Nat.reduceSub, Nat.reduceMul, Nat.reduceDiv, Nat.reduceMod, Nat.reduceLeDiff, Nat.reduceLT, Nat.reduceBEq, Int.reduceEq, Int.reduceBEq, Int.reduceBNe, Int.reduceLT, Int.reduceLE, Int.reduceAdd, Int.reduceSub, Int.reduceNeg, Int.reduceToNat, Int.reducePow, Nat.reducePow, Int.reduceMul, Int.reduceDiv, ↓s_stats_Histogram_Add, ↓enterK_eq e, enterK_eq e, h2, h3]
        rfl
      · (repeat (first | exact Fr.refl _ | refine Fr.push ?_ _ | refine Fr.set ?_ _ _ (by intro h; first | omega | (simp only [go_sem] at h; omega))))

section
attribute [local congr] bareK_congr bothK_congr
attribute [-go_sem] bldS
theorem q_Add_full (L : List Co) (b n t : Nat) (H : AHeap) (hL : Okc L) (hf : H.f b = HB (ofL (ex L))) (hb : b < H.n) (hn : n ≤ 1099511627776) (ht : 0 < t) (ht2 : t ≤ 1099511627776) (hfu : fullA L n t = true) :
    CC F.stats_Histogram_Add [.pointer (some ⟨b, 0, none⟩), .int .i64 (n : Int), .int .i64 (t : Int)] H = some (.int .i64 7, H) := by
  have hfu : 1099511627776 < cntR L + t ∨ 4611686018427387904 < sumR L + n * t := by unfold fullA at hfu; simpa using hfu
  have hs := hL.s
  have hl := lenN_le hn
  have hbu := q_Bucket n hn H
  have h1 : ¬ (t : Int) < 0 := by omega
  have h2 : ¬ (1099511627776 : Int) < (t : Int) := by omega
  have h3 : ¬ (t : Int) = 0 := by omega
  by_cases hnt : n * t ≤ 4611686018427387904
  · obtain ⟨H1, hH1⟩ : ∃ H1, H.push (HB zHi) = H1 := ⟨_, rfl⟩
    have s1 : Still H H1 := by rw [← hH1]; exact (Fr.refl H).push _
    have g1 : H1.f H.n = HB zHi := by rw [← hH1]; exact push_f_eq rfl
    have g1b : H1.f b = HB (ofL (ex L)) := by rw [← hH1, push_f_ne (by omega)]; exact hf
    have hst := st_hv zHi ⟨fun _ => 0, t, ((n * t : Nat) : Int), n, n⟩ g1
    obtain ⟨H2, hH2⟩ : ∃ H2, H1.set H.n (HB ⟨fun _ => 0, t, ((n * t : Nat) : Int), n, n⟩) = H2 := ⟨_, rfl⟩
    rw [hH2] at hst
    have g2 : H2.f H.n = HB ⟨fun _ => 0, t, ((n * t : Nat) : Int), n, n⟩ := by rw [← hH2]; exact set_f_eq
    have g2b : H2.f b = HB (ofL (ex L)) := by rw [← hH2, set_f_ne (by omega), g1b]
    have s2 : Still H H2 := by rw [← hH2]; exact Fr.set s1 _ _ fun h => by omega
    obtain ⟨H3, hH3⟩ : ∃ H3, H2.set H.n (HB (oneH n t)) = H3 := ⟨_, rfl⟩
    have g3 : H3.f H.n = HB (oneH n t) := by rw [← hH3]; exact set_f_eq
    have g3b : H3.f b = HB (ofL (ex L)) := by rw [← hH3, set_f_ne (by omega), g2b]
    have s3 : Still H H3 := by rw [← hH3]; exact Fr.set s2 _ _ fun h => by omega
    have hp : newv T.stats_Histogram (.agg #[(.int .i64 0), (.int .i64 0), (.int .i64 0), (.int .i64 0), (.int .i64 0), (.int .i64 0), (.int .i64 0), (.int .i64 0), (.int .i64 0), (.int .i64 0), (.int .i64 0), (.int .i64 0), (.int .i64 0), (.int .i64 0), (.int .i64 0), (.int .i64 0), (.int .i64 0), (.int .i64 0), (.int .i64 0), (.int .i64 0), (.int .i64 0), (.int .i64 0), (.int .i64 0), (.int .i64 0), (.int .i64 0), (.int .i64 0), (.int .i64 0), (.int .i64 0), (.int .i64 0), (.int .i64 0), (.int .i64 0), (.int .i64 0), (.int .i64 0), (.int .i64 0), (.int .i64 0), (.int .i64 0), (.int .i64 0), (.int .i64 0), (.int .i64 0), (.int .i64 0), (.int .i64 0), (.int .i64 0), (.int .i64 0), (.int .i64 0), (.int .i64 0), (.int .i64 0)]) H = some (.pointer (some ⟨H.n, 0, none⟩), H1) := by rw [← hH1]; rfl
    have hone : OkI (oneH n t) := ⟨fun i _ => by simp only [oneH, upd]; split <;> omega, by simp only [oneH]; omega, by simp only [oneH]; omega⟩
    have hj := q_join_full (ofL (ex L)) (oneH n t) b H3 g3b (Nat.lt_of_lt_of_le hb s3.n) hL.oki hone (by
      show 1099511627776 - ((ex L).length : Int) < (t : Int) ∨ 4611686018427387904 - ((ex L).sum : Int) < ((n * t : Nat) : Int)
      rw [ex_len, ex_sum]; omega)
    have hseti := hv_seti ⟨fun _ => 0, t, ((n * t : Nat) : Int), n, n⟩ (show lenN n < 42 by omega) t
    have hlt : (0 : Int) ≤ (lenN n : Int) ∧ (lenN n : Int) < (42 : Nat) := by omega
    have hm : ∀ ox oy, xbin Try.prog .mul T.int ox oy (.int .i64 (n : Int)) (.int .i64 (t : Int)) = some (.int .i64 ((n * t : Nat) : Int)) := fun ox oy => mulN (by omega)
    have hld : cutB (HB (oneH n t)) 0 46 = some (hv (oneH n t)) := rfl
    have hbl := bld_hv (t : Int) ((n * t : Nat) : Int) (n : Int) (n : Int)
    have hH3' : H2.set H.n (.cells (hv ⟨upd (fun _ => 0) (lenN n) (t : Int), (t : Int), ((n * t : Nat) : Int), (n : Int), (n : Int)⟩) T.stats_Histogram true) = H3 := hH3
    by_cases hn0 : n = 0
    · have h4 : ¬ (0 : Int) < (n : Int) := by omega
      apply pure_of _ (d_stats_Histogram_Add _ _ _ H) rfl
      rotate_left 2
      · simp (disch := first | with_reducible rfl | assumption | omega | rfl | (simp only [go_sem]; first | done | omega)) only [go_sem, ↓reduceIte, reduceCtorEq, Nat.reduceEqDiff, Nat.reduceAdd, Nat.reduceSub, Nat.reduceMul, Nat.reduceDiv, Nat.reduceMod, Nat.reduceLeDiff, Nat.reduceLT, Nat.reduceBEq, Int.reduceEq, Int.reduceBEq, Int.reduceBNe, Int.reduceLT, Int.reduceLE, Int.reduceAdd, Int.reduceSub, Int.reduceNeg, Int.reduceToNat, Int.reducePow, Nat.reducePow, Int.reduceMul, Int.reduceDiv, ↓s_stats_Histogram_Add, ↓enterK_eq hbu, enterK_eq hbu, h1, h2, h3, h4, ↓hm, hm, ↓hbl, hbl, ↓hp, hp, ↓hst, hst, g2, hlt, hseti, hH3', g3, hld, ↓enterK_eq hj, enterK_eq hj, Int.toNat_natCast, Nat.zero_add, Nat.mul_one]
        rfl
      · exact s3
    · have h4 : (0 : Int) < (n : Int) := by omega
      have hq : ∀ ox oy, xbin Try.prog .quo T.int ox oy (.int .i64 4611686018427387904) (.int .i64 (n : Int)) = some (.int .i64 (4611686018427387904 / (n : Int))) := fun ox oy => quoI (by decide) h4 (by decide)
      have h5 : ¬ (4611686018427387904 : Int) / (n : Int) < (t : Int) := by
        have : (t : Int) ≤ 4611686018427387904 / (n : Int) := (Int.le_ediv_iff_mul_le h4).2 (by rw [Int.mul_comm]; omega)
        omega
      apply pure_of _ (d_stats_Histogram_Add _ _ _ H) rfl
      rotate_left 2
      · simp (disch := first | with_reducible rfl | assumption | omega | rfl | (simp only [go_sem]; first | done | omega)) only [go_sem, ↓reduceIte, reduceCtorEq, Nat.reduceEqDiff, Nat.reduceAdd, Nat.reduceSub, Nat.reduceMul, Nat.reduceDiv, Nat.reduceMod, Nat.reduceLeDiff, Nat.reduceLT, Nat.reduceBEq, Int.reduceEq, Int.reduceBEq, Int.reduceBNe, Int.reduceLT, Int.reduceLE, Int.reduceAdd, Int.reduceSub, Int.reduceNeg, Int.reduceToNat, Int.reducePow, Nat.reducePow, Int.reduceMul, Int.reduceDiv, ↓s_stats_Histogram_Add, ↓enterK_eq hbu, enterK_eq hbu, h1, h2, h3, h4, ↓hq, hq, decide_eq_false h5, ↓hm, hm, ↓hbl, hbl, ↓hp, hp, ↓hst, hst, g2, hlt, hseti, hH3', g3, hld, ↓enterK_eq hj, enterK_eq hj, Int.toNat_natCast, Nat.zero_add, Nat.mul_one]
        rfl
      · exact s3
  · have hn0 : 0 < n := by
      by_cases h : n = 0
      · subst h; simp at hnt
      · omega
    have h4 : (0 : Int) < (n : Int) := by omega
    have hq : ∀ ox oy, xbin Try.prog .quo T.int ox oy (.int .i64 4611686018427387904) (.int .i64 (n : Int)) = some (.int .i64 (4611686018427387904 / (n : Int))) := fun ox oy => quoI (by decide) h4 (by decide)
    have h5 : (4611686018427387904 : Int) / (n : Int) < (t : Int) := by
      by_cases h : (4611686018427387904 : Int) / (n : Int) < (t : Int)
      · exact h
      · exfalso
        have : (t : Int) * (n : Int) ≤ 4611686018427387904 := (Int.le_ediv_iff_mul_le h4).1 (by omega)
        rw [Int.mul_comm] at this
        omega
    apply pure_of _ (d_stats_Histogram_Add _ _ _ H) rfl
    rotate_left 2
    · simp (disch := first | with_reducible rfl | assumption | omega | rfl | (simp only [go_sem]; first | done | omega)) only [go_sem, ↓reduceIte, reduceCtorEq, Nat.reduceEqDiff, Nat.reduceAdd, Nat.reduceSub, Nat.reduceMul, Nat.reduceDiv, Nat.reduceMod, Nat.reduceLeDiff, Nat.reduceLT, Nat.reduceBEq, Int.reduceEq, Int.reduceBEq, Int.reduceBNe, Int.reduceLT, Int.reduceLE, Int.reduceAdd, Int.reduceSub, Int.reduceNeg, Int.reduceToNat, Int.reducePow, Nat.reducePow, Int.reduceMul, Int.reduceDiv, ↓s_stats_Histogram_Add, ↓enterK_eq hbu, enterK_eq hbu, h1, h2, h3, h4, ↓hq, hq, decide_eq_true h5]
      rfl
    · (repeat (first | exact Fr.refl _ | refine Fr.push ?_ _ | refine Fr.set ?_ _ _ (by intro h; first | omega | (simp only [go_sem] at h; omega))))
end

theorem q_sAdd (L : List Co) (b : Nat) (n t : Int) (H : AHeap) (hL : Okc L) (hf : H.f b = HB (ofL (ex L))) (hb : b < H.n) (ok : ∀ b, H.ver b < H.clk) :
    ∃ H', CC F.stats_Histogram_Add [.pointer (some ⟨b, 0, none⟩), .int .i64 n, .int .i64 t] H = some (.int .i64 (addC L n t).1, H') ∧ H'.f b = HB (ofL (ex (addC L n t).2)) ∧ Fr (fun c => c = b) H H' := by
  unfold addC
  by_cases h1 : badA n t = true
  · rw [if_pos h1]
    exact ⟨H, q_Add_bad b n t H h1, hf, Fr.refl H⟩
  · rw [if_neg h1]
    have h1 : ¬ (n < 0 ∨ 1099511627776 < n ∨ t < 0 ∨ 1099511627776 < t) := by unfold badA at h1; simpa using h1
    obtain ⟨n, rfl⟩ : ∃ k : Nat, n = (k : Int) := ⟨n.toNat, by omega⟩
    obtain ⟨t, rfl⟩ : ∃ k : Nat, t = (k : Int) := ⟨t.toNat, by omega⟩
    simp only [Int.toNat_natCast]
    by_cases h2 : (t : Int) = 0
    · rw [if_pos h2]
      obtain rfl : t = 0 := by omega
      exact ⟨H, q_Add_zero b n H (by omega), hf, Fr.refl H⟩
    · rw [if_neg h2]
      by_cases h3 : fullA L n t = true
      · rw [if_pos h3]
        exact ⟨H, q_Add_full L b n t H hL hf hb (by omega) (by omega) (by omega) h3, hf, Fr.refl H⟩
      · rw [if_neg h3]
        have h3 : ¬ (1099511627776 < cntR L + t ∨ 4611686018427387904 < sumR L + n * t) := by unfold fullA at h3; simpa using h3
        obtain ⟨H', g1, g2, g3⟩ := q_lAdd (ex L) b n t H hf hb ok hL.low (by omega) (by rw [ex_len]; omega) (by rw [ex_sum]; omega)
        refine ⟨H', g1, ?_, g3⟩
        rw [g2, ex_app]
        simp [ex]

def fullM (A B : List Co) : Bool := decide (1099511627776 < cntR A + cntR B ∨ 4611686018427387904 < sumR A + sumR B)
def mrgC (A B : List Co) : Int × List Co := if fullM A B = true then (7, A) else (0, A ++ B)
theorem okc_mrg {A B : List Co} (hA : Okc A) (hB : Okc B) : Okc (mrgC A B).2 := by
  unfold mrgC
  by_cases h : fullM A B = true
  · rw [if_pos h]; exact hA
  · rw [if_neg h]
    have h : ¬ (1099511627776 < cntR A + cntR B ∨ 4611686018427387904 < sumR A + sumR B) := by unfold fullM at h; simpa using h
    exact hA.app hB (by omega) (by omega)
theorem q_sMerge (A B : List Co) (a b : Nat) (H : AHeap) (hA : Okc A) (hB : Okc B) (ha : H.f a = HB (ofL (ex A))) (hb : H.f b = HB (ofL (ex B))) (han : a < H.n) (ok : ∀ b, H.ver b < H.clk) :
    ∃ H', CC F.stats_Histogram_Merge [.pointer (some ⟨a, 0, none⟩), .pointer (some ⟨b, 0, none⟩)] H = some (.int .i64 (mrgC A B).1, H') ∧ H'.f a = HB (ofL (ex (mrgC A B).2)) ∧ Fr (fun c => c = a) H H' := by
  unfold mrgC
  by_cases h : fullM A B = true
  · rw [if_pos h]
    have h : 1099511627776 < cntR A + cntR B ∨ 4611686018427387904 < sumR A + sumR B := by unfold fullM at h; simpa using h
    have hs := hA.s
    have hc := hA.c
    have hj := q_join_full (ofL (ex A)) (ofL (ex B)) a H ha han hA.oki hB.oki (by
      show 1099511627776 - ((ex A).length : Int) < ((ex B).length : Int) ∨ 4611686018427387904 - ((ex A).sum : Int) < ((ex B).sum : Int)
      rw [ex_len, ex_len, ex_sum, ex_sum]; omega)
    have hld : cutB (HB (ofL (ex B))) 0 46 = some (hv (ofL (ex B))) := rfl
    refine ⟨H, ?_, ha, Fr.refl H⟩
    apply pure_of _ (d_stats_Histogram_Merge _ _ H) rfl
    rotate_left 2
    · simp (disch := first | with_reducible rfl | assumption | omega | rfl | (simp only [go_sem]; first | done | omega)) only [go_sem, ↓reduceIte, reduceCtorEq, Nat.reduceEqDiff, Nat.reduceAdd, Nat.reduceSub, Nat.reduceMul, Nat.reduceDiv, Nat.reduceMod, Nat.reduceLeDiff, Nat.reduceLT, Nat.reduceBEq, Int.reduceEq, Int.reduceBEq, Int.reduceBNe, Int.reduceLT, Int.reduceLE, Int.reduceAdd, Int.reduceSub, Int.reduceNeg, Int.reduceToNat, Int.reducePow, Nat.reducePow, Int.reduceMul, Int.reduceDiv, ↓s_stats_Histogram_Merge, hb, hld, ↓enterK_eq hj, enterK_eq hj]
      rfl
    · (repeat (first | exact Fr.refl _ | refine Fr.push ?_ _ | refine Fr.set ?_ _ _ (by intro h; first | omega | (simp only [go_sem] at h; omega))))
  · rw [if_neg h]
    have h : ¬ (1099511627776 < cntR A + cntR B ∨ 4611686018427387904 < sumR A + sumR B) := by unfold fullM at h; simpa using h
    obtain ⟨H', g1, g2, g3⟩ := q_lMerge (ex A) (ex B) a b H ha hb han ok hA.low hB.low (by rw [ex_len, ex_len]; omega) (by rw [ex_sum, ex_sum]; omega)
    exact ⟨H', g1, by rw [g2, ex_app], g3⟩

end Go.Proofs.Ytplblfcofplcmaa

/-
  Chapter 26: the reference's histogram.
  Conditions: none. By an AI agent.
-/
set_option maxRecDepth 10000
set_option linter.unusedSimpArgs false
set_option linter.unusedVariables false
namespace Go.Proofs.Ytplblfcofplcmaa
open Go Eng

theorem Okc.len {L : List Co} (h : Okc L) : L.length ≤ 1099511627776 := by
  have : ∀ L : List Co, WfC L → L.length ≤ cntR L := by
    intro L
    induction L with
    | nil => intro _; exact Nat.zero_le _
    | cons p L ih =>
      intro hw
      have h1 := (hw p (by simp)).2
      have h2 := ih fun q hq => hw q (by simp [hq])
      simp only [cntR, List.map_cons, List.sum_cons, List.length_cons] at *
      omega
  exact Nat.le_trans (this L h.wf) h.c

def ECo : Enc Co := ⟨2, fun p => [.int .i64 (p.1 : Int), .int .i64 (p.2 : Int)], fun _ => rfl, by decide, fun _ => rfl⟩

attribute [local congr] bareK_congr bothK_congr

theorem drop_cons' {α : Type} {l m : List α} {a : α} {i : Nat} (h : l.drop i = a :: m) : ∃ hi : i < l.length, l[i] = a ∧ l.drop (i + 1) = m := by
  have hi : i < l.length := by
    by_cases hi : i < l.length
    · exact hi
    · rw [List.drop_eq_nil_of_le (by omega)] at h; cases h
  rw [List.drop_eq_getElem_cons hi] at h
  cases h
  exact ⟨hi, rfl, rfl⟩

section
variable {L : List Co} {v : Value} {b : Nat} {H : AHeap}
theorem Rd.co (hr : Rd ECo H v L) {i : Nat} (h : i < L.length) : ∃ bb o, ixS 2 v (.int .i64 (i : Int)) = some (.pointer (some ⟨bb, o, none⟩)) ∧ cellB (H.f bb) o = some (.int .i64 (L[i].1 : Int)) ∧ cellB (H.f bb) (o + 1) = some (.int .i64 (L[i].2 : Int)) ∧ bb < H.n ∧ blockOf v = some bb := by
  obtain ⟨bb, o, hix, hb, hc, hbl⟩ := hr.ix (q := .i64) h
  exact ⟨bb, o, hix, cutB_cell hc (i := 0) (by decide), cutB_cell hc (i := 1) (by decide), hb, hbl⟩

theorem cnt_drop (L : List Co) (i : Nat) : cntR (L.drop i) ≤ cntR L := by
  have := cnt_app (L.take i) (L.drop i)
  rw [List.take_append_drop] at this
  omega
theorem sum_drop (L : List Co) (i : Nat) : sumR (L.drop i) ≤ sumR L := by
  have := sum_app (L.take i) (L.drop i)
  rw [List.take_append_drop] at this
  omega

theorem l_rCount (hf : H.f b = .cells [v] T.ref26_Histogram true) (hr : Rd ECo H v L) (hn : L.length ≤ 1099511627776) (K : K) : ∀ (m : List Co) (i a : Nat), L.drop i = m → i ≤ L.length → a + cntR m ≤ 4611686018427387904 →
    l_ref26_Histogram_Count_0 (.pointer (some ⟨b, 0, none⟩)) (.int .i64 (a : Int)) (.int .i64 (i : Int)) H (blkK [3] 0 K) = K .normal [(3, .int .i64 ((a + cntR m : Nat) : Int))] H
  | [], i, a, hm, hi, ha => by
    have h : L.length ≤ i := List.drop_eq_nil_iff.1 hm
    have hlt : ¬ (i : Int) < (L.length : Int) := by omega
    have hlen := hr.lenS
    rw [r_ref26_Histogram_Count_0]
    simp (disch := first | with_reducible rfl | assumption | omega | rfl | (simp only [go_sem]; first | done | omega)) only [go_sem, ↓reduceIte, reduceCtorEq, Nat.reduceEqDiff, Nat.reduceAdd, Nat.reduceSub, Nat.reduceMul, Nat.reduceDiv, Nat.reduceMod, Nat.reduceLeDiff, Nat.reduceLT, Nat.reduceBEq, Int.reduceEq, Int.reduceBEq, Int.reduceBNe, Int.reduceLT, Int.reduceLE, Int.reduceAdd, Int.reduceSub, Int.reduceNeg, Int.reduceToNat, Int.reducePow, Nat.reducePow, Int.reduceMul, Int.reduceDiv, ↓s_ref26_Histogram_Count_b0, hf, hlen, hlt]
    rfl
  | p :: m, i, a, hm, hi, ha => by
    obtain ⟨h, hp, hm'⟩ := drop_cons' hm
    have hlt : (i : Int) < (L.length : Int) := by omega
    have hlen := hr.lenS
    have e : cntR (p :: m) = p.2 + cntR m := by simp [cntR]
    have ih := l_rCount hf hr hn K m (i + 1) (a + p.2) hm' h (by omega)
    obtain ⟨bb, o, ix, c1, c2, _, _⟩ := Rd.co hr h
    rw [hp] at c1 c2
    rw [Int.natCast_add i 1, Int.natCast_add a p.2] at ih
    rw [r_ref26_Histogram_Count_0, e, ← Nat.add_assoc]
    simp (disch := first | with_reducible rfl | assumption | omega | rfl | (simp only [go_sem]; first | done | omega)) only [go_sem, ↓reduceIte, reduceCtorEq, Nat.reduceEqDiff, Nat.reduceAdd, Nat.reduceSub, Nat.reduceMul, Nat.reduceDiv, Nat.reduceMod, Nat.reduceLeDiff, Nat.reduceLT, Nat.reduceBEq, Int.reduceEq, Int.reduceBEq, Int.reduceBNe, Int.reduceLT, Int.reduceLE, Int.reduceAdd, Int.reduceSub, Int.reduceNeg, Int.reduceToNat, Int.reducePow, Nat.reducePow, Int.reduceMul, Int.reduceDiv, ↓s_ref26_Histogram_Count_b0, hf, hlen, hlt, ix, c1, c2]
    exact ih
theorem q_rCount (hf : H.f b = .cells [v] T.ref26_Histogram true) (hr : Rd ECo H v L) (hL : Okc L) : CC F.ref26_Histogram_Count [.pointer (some ⟨b, 0, none⟩)] H = some (.int .i64 (cntR L), H) := by
  have hc := hL.c
  have hn := hL.len
  have hl : ∀ K, l_ref26_Histogram_Count_0 (.pointer (some ⟨b, 0, none⟩)) (.int .i64 0) (.int .i64 0) H (blkK [3] 0 K) = K .normal [(3, .int .i64 (cntR L : Int))] H := fun K => by have := l_rCount hf hr hn K L 0 0 rfl (Nat.zero_le _) (by omega); rw [Nat.zero_add] at this; exact this
  apply pure_of _ (d_ref26_Histogram_Count _ H) rfl
  rotate_left 2
  · simp (disch := first | with_reducible rfl | assumption | omega | rfl | (simp only [go_sem]; first | done | omega)) only [go_sem, ↓reduceIte, reduceCtorEq, Nat.reduceEqDiff, Nat.reduceAdd, Nat.reduceSub, Nat.reduceMul, Nat.reduceDiv, Nat.reduceMod, Nat.reduceLeDiff, Nat.reduceLT, Nat.reduceBEq, Int.reduceEq, Int.reduceBEq, Int.reduceBNe, Int.reduceLT, Int.reduceLE, Int.reduceAdd, Int.reduceSub, Int.reduceNeg, Int.reduceToNat, Int.reducePow, Nat.reducePow, Int.reduceMul, Int.reduceDiv, ↓s_ref26_Histogram_Count, hl]
    rfl
  · (repeat (first | exact Fr.refl _ | refine Fr.push ?_ _ | refine Fr.set ?_ _ _ (by intro h; first | omega | (simp only [go_sem] at h; omega))))

theorem l_rSum (hf : H.f b = .cells [v] T.ref26_Histogram true) (hr : Rd ECo H v L) (hn : L.length ≤ 1099511627776) (K : K) : ∀ (m : List Co) (i a : Nat), L.drop i = m → i ≤ L.length → a + sumR m ≤ 4611686018427387904 →
    l_ref26_Histogram_Sum_0 (.pointer (some ⟨b, 0, none⟩)) (.int .i64 (a : Int)) (.int .i64 (i : Int)) H (blkK [3] 0 K) = K .normal [(3, .int .i64 ((a + sumR m : Nat) : Int))] H
  | [], i, a, hm, hi, ha => by
    have h : L.length ≤ i := List.drop_eq_nil_iff.1 hm
    have hlt : ¬ (i : Int) < (L.length : Int) := by omega
    have hlen := hr.lenS
    rw [r_ref26_Histogram_Sum_0]
    simp (disch := first | with_reducible rfl | assumption | omega | rfl | (simp only [go_sem]; first | done | omega)) only [go_sem, ↓reduceIte, reduceCtorEq, Nat.reduceEqDiff, Nat.reduceAdd, Nat.reduceSub, Nat.reduceMul, Nat.reduceDiv, Nat.reduceMod, Nat.reduceLeDiff, Nat.reduceLT, Nat.reduceBEq, Int.reduceEq, Int.reduceBEq, Int.reduceBNe, Int.reduceLT, Int.reduceLE, Int.reduceAdd, Int.reduceSub, Int.reduceNeg, Int.reduceToNat, Int.reducePow, Nat.reducePow, Int.reduceMul, Int.reduceDiv, ↓s_ref26_Histogram_Sum_b0, hf, hlen, hlt]
    rfl
  | p :: m, i, a, hm, hi, ha => by
    obtain ⟨h, hp, hm'⟩ := drop_cons' hm
    have hlt : (i : Int) < (L.length : Int) := by omega
    have hlen := hr.lenS
    have e : sumR (p :: m) = p.1 * p.2 + sumR m := by simp [sumR]
    have ih := l_rSum hf hr hn K m (i + 1) (a + p.1 * p.2) hm' h (by omega)
    obtain ⟨bb, o, ix, c1, c2, _, _⟩ := Rd.co hr h
    rw [hp] at c1 c2
    have hm1 : ∀ ox oy, xbin Try.prog .mul T.int ox oy (.int .i64 (p.1 : Int)) (.int .i64 (p.2 : Int)) = some (.int .i64 ((p.1 * p.2 : Nat) : Int)) := fun ox oy => mulN (by omega)
    rw [Int.natCast_add i 1, Int.natCast_add a] at ih
    rw [r_ref26_Histogram_Sum_0, e, ← Nat.add_assoc]
    obtain ⟨X, hX⟩ : ∃ X, p.1 * p.2 = X := ⟨_, rfl⟩
    rw [hX] at hm1 ih ⊢
    simp (disch := first | with_reducible rfl | assumption | omega | rfl | (simp only [go_sem]; first | done | omega)) only [go_sem, ↓reduceIte, reduceCtorEq, Nat.reduceEqDiff, Nat.reduceAdd, Nat.reduceSub, Nat.reduceMul, Nat.reduceDiv, Nat.reduceMod, Nat.reduceLeDiff, Nat.reduceLT, Nat.reduceBEq, Int.reduceEq, Int.reduceBEq, Int.reduceBNe, Int.reduceLT, Int.reduceLE, Int.reduceAdd, Int.reduceSub, Int.reduceNeg, Int.reduceToNat, Int.reducePow, Nat.reducePow, Int.reduceMul, Int.reduceDiv, ↓s_ref26_Histogram_Sum_b0, hf, hlen, hlt, ix, c1, c2, ↓hm1, hm1]
    exact ih
theorem q_rSum (hf : H.f b = .cells [v] T.ref26_Histogram true) (hr : Rd ECo H v L) (hL : Okc L) : CC F.ref26_Histogram_Sum [.pointer (some ⟨b, 0, none⟩)] H = some (.int .i64 (sumR L), H) := by
  have hc := hL.s
  have hn := hL.len
  have hl : ∀ K, l_ref26_Histogram_Sum_0 (.pointer (some ⟨b, 0, none⟩)) (.int .i64 0) (.int .i64 0) H (blkK [3] 0 K) = K .normal [(3, .int .i64 (sumR L : Int))] H := fun K => by have := l_rSum hf hr hn K L 0 0 rfl (Nat.zero_le _) (by omega); rw [Nat.zero_add] at this; exact this
  apply pure_of _ (d_ref26_Histogram_Sum _ H) rfl
  rotate_left 2
  · simp (disch := first | with_reducible rfl | assumption | omega | rfl | (simp only [go_sem]; first | done | omega)) only [go_sem, ↓reduceIte, reduceCtorEq, Nat.reduceEqDiff, Nat.reduceAdd, Nat.reduceSub, Nat.reduceMul, Nat.reduceDiv, Nat.reduceMod, Nat.reduceLeDiff, Nat.reduceLT, Nat.reduceBEq, Int.reduceEq, Int.reduceBEq, Int.reduceBNe, Int.reduceLT, Int.reduceLE, Int.reduceAdd, Int.reduceSub, Int.reduceNeg, Int.reduceToNat, Int.reducePow, Nat.reducePow, Int.reduceMul, Int.reduceDiv, ↓s_ref26_Histogram_Sum, hl]
    rfl
  · (repeat (first | exact Fr.refl _ | refine Fr.push ?_ _ | refine Fr.set ?_ _ _ (by intro h; first | omega | (simp only [go_sem] at h; omega))))

/-! ### adding -/
theorem q_rAdd_still (n t : Int) (hf : H.f b = .cells [v] T.ref26_Histogram true) (hr : Rd ECo H v L) (hL : Okc L) (h : (addC L n t).2 = L) (hc : (addC L n t).1 ≠ 0 ∨ t = 0) : CC F.ref26_Histogram_Add [.pointer (some ⟨b, 0, none⟩), .int .i64 n, .int .i64 t] H = some (.int .i64 (addC L n t).1, H) := by
  unfold addC at h hc ⊢
  by_cases h1 : badA n t = true
  · rw [if_pos h1]
    have h1 : n < 0 ∨ 1099511627776 < n ∨ t < 0 ∨ 1099511627776 < t := by unfold badA at h1; simpa using h1
    by_cases a1 : n < 0
    · apply pure_of _ (d_ref26_Histogram_Add _ _ _ H) rfl
      rotate_left 2
      · simp (disch := first | with_reducible rfl | assumption | omega | rfl | (simp only [go_sem]; first | done | omega)) only [go_sem, ↓reduceIte, reduceCtorEq, Nat.reduceEqDiff, Nat.reduceAdd, Nat.reduceSub, Nat.reduceMul, Nat.reduceDiv, Nat.reduceMod, Nat.reduceLeDiff, Nat.reduceLT, Nat.reduceBEq, Int.reduceEq, Int.reduceBEq, Int.reduceBNe, Int.reduceLT, Int.reduceLE, Int.reduceAdd, Int.reduceSub, Int.reduceNeg, Int.reduceToNat, Int.reducePow, Nat.reducePow, Int.reduceMul, Int.reduceDiv, ↓s_ref26_Histogram_Add, a1]
        rfl
      · (repeat (first | exact Fr.refl _ | refine Fr.push ?_ _ | refine Fr.set ?_ _ _ (by intro h; first | omega | (simp only [go_sem] at h; omega))))
    · by_cases a2 : 1099511627776 < n
      · apply pure_of _ (d_ref26_Histogram_Add _ _ _ H) rfl
        rotate_left 2
        · simp (disch := first | with_reducible rfl | assumption | omega | rfl | (simp only [go_sem]; first | done | omega)) only [go_sem, ↓reduceIte, reduceCtorEq, Nat.reduceEqDiff, Nat.reduceAdd, Nat.reduceSub, Nat.reduceMul, Nat.reduceDiv, Nat.reduceMod, Nat.reduceLeDiff, Nat.reduceLT, Nat.reduceBEq, Int.reduceEq, Int.reduceBEq, Int.reduceBNe, Int.reduceLT, Int.reduceLE, Int.reduceAdd, Int.reduceSub, Int.reduceNeg, Int.reduceToNat, Int.reducePow, Nat.reducePow, Int.reduceMul, Int.reduceDiv, ↓s_ref26_Histogram_Add, a1, a2]
          rfl
        · (repeat (first | exact Fr.refl _ | refine Fr.push ?_ _ | refine Fr.set ?_ _ _ (by intro h; first | omega | (simp only [go_sem] at h; omega))))
      · by_cases a3 : t < 0
        · apply pure_of _ (d_ref26_Histogram_Add _ _ _ H) rfl
          rotate_left 2
          · simp (disch := first | with_reducible rfl | assumption | omega | rfl | (simp only [go_sem]; first | done | omega)) only [go_sem, ↓reduceIte, reduceCtorEq, Nat.reduceEqDiff, Nat.reduceAdd, Nat.reduceSub, Nat.reduceMul, Nat.reduceDiv, Nat.reduceMod, Nat.reduceLeDiff, Nat.reduceLT, Nat.reduceBEq, Int.reduceEq, Int.reduceBEq, Int.reduceBNe, Int.reduceLT, Int.reduceLE, Int.reduceAdd, Int.reduceSub, Int.reduceNeg, Int.reduceToNat, Int.reducePow, Nat.reducePow, Int.reduceMul, Int.reduceDiv, ↓s_ref26_Histogram_Add, a1, a2, a3]
            rfl
          · (repeat (first | exact Fr.refl _ | refine Fr.push ?_ _ | refine Fr.set ?_ _ _ (by intro h; first | omega | (simp only [go_sem] at h; omega))))
        · have a4 : 1099511627776 < t := by omega
          apply pure_of _ (d_ref26_Histogram_Add _ _ _ H) rfl
          rotate_left 2
          · simp (disch := first | with_reducible rfl | assumption | omega | rfl | (simp only [go_sem]; first | done | omega)) only [go_sem, ↓reduceIte, reduceCtorEq, Nat.reduceEqDiff, Nat.reduceAdd, Nat.reduceSub, Nat.reduceMul, Nat.reduceDiv, Nat.reduceMod, Nat.reduceLeDiff, Nat.reduceLT, Nat.reduceBEq, Int.reduceEq, Int.reduceBEq, Int.reduceBNe, Int.reduceLT, Int.reduceLE, Int.reduceAdd, Int.reduceSub, Int.reduceNeg, Int.reduceToNat, Int.reducePow, Nat.reducePow, Int.reduceMul, Int.reduceDiv, ↓s_ref26_Histogram_Add, a1, a2, a3, a4]
            rfl
          · (repeat (first | exact Fr.refl _ | refine Fr.push ?_ _ | refine Fr.set ?_ _ _ (by intro h; first | omega | (simp only [go_sem] at h; omega))))
  · rw [if_neg h1] at h hc ⊢
    have h1 : ¬ (n < 0 ∨ 1099511627776 < n ∨ t < 0 ∨ 1099511627776 < t) := by unfold badA at h1; simpa using h1
    have a1 : ¬ n < 0 := by omega
    have a2 : ¬ 1099511627776 < n := by omega
    have a3 : ¬ t < 0 := by omega
    have a4 : ¬ 1099511627776 < t := by omega
    by_cases h2 : t = 0
    · rw [if_pos h2]
      apply pure_of _ (d_ref26_Histogram_Add _ _ _ H) rfl
      rotate_left 2
      · simp (disch := first | with_reducible rfl | assumption | omega | rfl | (simp only [go_sem]; first | done | omega)) only [go_sem, ↓reduceIte, reduceCtorEq, Nat.reduceEqDiff, Nat.reduceAdd, Nat.reduceSub, Nat.reduceMul, Nat.reduceDiv, Nat.reduceMod, Nat.reduceLeDiff, Nat.reduceLT, Nat.reduceBEq, Int.reduceEq, Int.reduceBEq, Int.reduceBNe, Int.reduceLT, Int.reduceLE, Int.reduceAdd, Int.reduceSub, Int.reduceNeg, Int.reduceToNat, Int.reducePow, Nat.reducePow, Int.reduceMul, Int.reduceDiv, ↓s_ref26_Histogram_Add, a1, a2, a3, a4, h2]
        rfl
      · (repeat (first | exact Fr.refl _ | refine Fr.push ?_ _ | refine Fr.set ?_ _ _ (by intro h; first | omega | (simp only [go_sem] at h; omega))))
    · rw [if_neg h2] at h hc ⊢
      by_cases h3 : fullA L n.toNat t.toNat = true
      · rw [if_pos h3]
        have h3 : 1099511627776 < cntR L + t.toNat ∨ 4611686018427387904 < sumR L + n.toNat * t.toNat := by unfold fullA at h3; simpa using h3
        have e1 := q_rCount hf hr hL
        have e2 := q_rSum hf hr hL
        have hc' := hL.c
        have hs' := hL.s
        obtain ⟨n, rfl⟩ : ∃ k : Nat, n = (k : Int) := ⟨n.toNat, by omega⟩
        obtain ⟨t, rfl⟩ : ∃ k : Nat, t = (k : Int) := ⟨t.toNat, by omega⟩
        simp only [Int.toNat_natCast] at h3
        by_cases b1 : (1099511627776 : Int) < (cntR L : Int) + (t : Int)
        · apply pure_of _ (d_ref26_Histogram_Add _ _ _ H) rfl
          rotate_left 2
          · simp (disch := first | with_reducible rfl | assumption | omega | rfl | (simp only [go_sem]; first | done | omega)) only [go_sem, ↓reduceIte, reduceCtorEq, Nat.reduceEqDiff, Nat.reduceAdd, Nat.reduceSub, Nat.reduceMul, Nat.reduceDiv, Nat.reduceMod, Nat.reduceLeDiff, Nat.reduceLT, Nat.reduceBEq, Int.reduceEq, Int.reduceBEq, Int.reduceBNe, Int.reduceLT, Int.reduceLE, Int.reduceAdd, Int.reduceSub, Int.reduceNeg, Int.reduceToNat, Int.reducePow, Nat.reducePow, Int.reduceMul, Int.reduceDiv, ↓s_ref26_Histogram_Add, a1, a2, a3, a4, h2, ↓enterK_eq e1, enterK_eq e1, b1]
            rfl
          · (repeat (first | exact Fr.refl _ | refine Fr.push ?_ _ | refine Fr.set ?_ _ _ (by intro h; first | omega | (simp only [go_sem] at h; omega))))
        · have hn0 : n ≠ 0 := fun h => by subst h; omega
          have h4 : (0 : Int) < (n : Int) := by omega
          have hq : ∀ ox oy, xbin Try.prog .quo T.int ox oy (.int .i64 (4611686018427387904 - (sumR L : Int))) (.int .i64 (n : Int)) = some (.int .i64 ((4611686018427387904 - (sumR L : Int)) / (n : Int))) := fun ox oy => quoI (by omega) h4 (by omega)
          have h5 : (4611686018427387904 - (sumR L : Int)) / (n : Int) < (t : Int) := by
            by_cases h : (4611686018427387904 - (sumR L : Int)) / (n : Int) < (t : Int)
            · exact h
            · exfalso
              have : (t : Int) * (n : Int) ≤ 4611686018427387904 - (sumR L : Int) := (Int.le_ediv_iff_mul_le h4).1 (by omega)
              rw [Int.mul_comm] at this
              have h3' := h3.resolve_left (by omega)
              have e : ((n * t : Nat) : Int) = (n : Int) * (t : Int) := Int.natCast_mul _ _
              omega
          apply pure_of _ (d_ref26_Histogram_Add _ _ _ H) rfl
          rotate_left 2
          · simp (disch := first | with_reducible rfl | assumption | omega | rfl | (simp only [go_sem]; first | done | omega)) only [go_sem, ↓reduceIte, reduceCtorEq, Nat.reduceEqDiff, Nat.reduceAdd, Nat.reduceSub, Nat.reduceMul, Nat.reduceDiv, Nat.reduceMod, Nat.reduceLeDiff, Nat.reduceLT, Nat.reduceBEq, Int.reduceEq, Int.reduceBEq, Int.reduceBNe, Int.reduceLT, Int.reduceLE, Int.reduceAdd, Int.reduceSub, Int.reduceNeg, Int.reduceToNat, Int.reducePow, Nat.reducePow, Int.reduceMul, Int.reduceDiv, ↓s_ref26_Histogram_Add, a1, a2, a3, a4, h2, ↓enterK_eq e1, enterK_eq e1, b1, h4, ↓enterK_eq e2, enterK_eq e2, ↓hq, hq, decide_eq_true h5]
            rfl
          · (repeat (first | exact Fr.refl _ | refine Fr.push ?_ _ | refine Fr.set ?_ _ _ (by intro h; first | omega | (simp only [go_sem] at h; omega))))
      · rw [if_neg h3] at hc
        exact absurd rfl (hc.resolve_right h2)
end

end Go.Proofs.Ytplblfcofplcmaa

/-
  Chapter 26: the reference's histogram: adding, merging, ends, buckets, quantiles.
  Conditions: none. By an AI agent.
-/
set_option maxRecDepth 10000
set_option linter.unusedSimpArgs false
set_option linter.unusedVariables false
namespace Go.Proofs.Ytplblfcofplcmaa
open Go Eng
attribute [local congr] bareK_congr bothK_congr

section
variable {L : List Co} {v : Value} {b : Nat} {H : AHeap}

theorem q_rAdd_ok (n t : Nat) (hf : H.f b = .cells [v] T.ref26_Histogram true) (hb : b < H.n) (hr : Rd ECo H v L) (ok : ∀ b, H.ver b < H.clk) (hL : Okc L) (hlen : L.length ≤ 1000) (hn : n ≤ 1099511627776) (ht : 0 < t) (ht2 : t ≤ 1099511627776) (hfu : fullA L n t = false) :
    ∃ v' H', CC F.ref26_Histogram_Add [.pointer (some ⟨b, 0, none⟩), .int .i64 (n : Int), .int .i64 (t : Int)] H = some (.int .i64 0, H') ∧ H'.f b = .cells [v'] T.ref26_Histogram true ∧ Rd ECo H' v' (L ++ [(n, t)]) ∧ (∀ c, blockOf v' = some c → H.n ≤ c ∧ c < H'.n) ∧ Fr (fun c => c = b) H H' := by
  have h3 : ¬ (1099511627776 < cntR L + t ∨ 4611686018427387904 < sumR L + n * t) := by unfold fullA at hfu; simpa using hfu
  have e1 := q_rCount hf hr hL
  have e2 := q_rSum hf hr hL
  have hc' := hL.c
  have hs' := hL.s
  have a1 : ¬ (n : Int) < 0 := by omega
  have a2 : ¬ (1099511627776 : Int) < (n : Int) := by omega
  have a3 : ¬ (t : Int) < 0 := by omega
  have a4 : ¬ (1099511627776 : Int) < (t : Int) := by omega
  have a5 : ¬ (t : Int) = 0 := by omega
  have a6 : ¬ (1099511627776 : Int) < (cntR L : Int) + (t : Int) := by omega
  -- the new row
  obtain ⟨v1, H1, happ, o1, fr1, hb1⟩ := Own.appA (E := ECo) (e := T.ref26_Counted) (H := H) (v := .slice none 0 0) (l := []) (.inl ⟨rfl, rfl⟩) L (sz := 2) (bytes := 16) rfl (by simp; omega) (by simp; omega) (hr.src (sz := 2) rfl)
  have s1 : Still H H1 := fr1.mono fun c _ h => by unfold OnlyOf at h; cases h
  have hb1' : ∀ c, blockOf v1 = some c → H.n ≤ c := fun c h => by
    rcases hb1 with hb | hb
    · rw [hb] at h; cases h
    · rw [hb] at h; cases h; exact Nat.le_refl _
  rw [List.nil_append] at o1
  obtain ⟨H2, hH2⟩ : ∃ H2, H1.push (.cells [.int .i64 (n : Int), .int .i64 (t : Int)] T.ref26_Counted true) = H2 := ⟨_, rfl⟩
  have s2 : Still H1 H2 := by rw [← hH2]; exact (Fr.refl H1).push _
  have n2 : H2.n = H1.n + 1 := by rw [← hH2]; rfl
  have f2 : H2.f H1.n = .cells [.int .i64 (n : Int), .int .i64 (t : Int)] T.ref26_Counted true := by rw [← hH2]; exact push_f_eq rfl
  have rl : Rd ECo H2 (.slice (some ⟨H1.n, 0, none⟩) 1 (2 * 1)) [(n, t)] := .inr (.inr ⟨H1.n, 0, _, rfl, by simp, by omega, by rw [f2]; rfl⟩)
  have o2 := o1.still s2
  obtain ⟨v3, H3, happ3, o3, fr3, hb3⟩ := o2.appA [(n, t)] (sz := 2) (bytes := 16) rfl (by simp; omega) (by simp; omega) (rl.src (sz := 2) rfl)
  have happ3 : app T.ref26_Counted 2 16 v1 (srcS 2 (.slice (some ⟨H1.n, 0, none⟩) 1 2) H2) H2 = some (v3, H3) := happ3
  have n1 := s1.n
  have n3 := fr3.n
  have hb3' : ∀ c, blockOf v3 = some c → H.n ≤ c := fun c h => by
    rcases hb3 with hb | hb
    · rw [hb] at h; exact hb1' c h
    · rw [hb] at h; cases h; omega
  have s3 : Still H H3 := (s1.then s2 fun c _ h => h).then fr3 fun c hc h => by unfold OnlyOf at h; have := hb1' c h; omega
  have f3 : H3.f b = .cells [v] T.ref26_Histogram true := by rw [s3.f hb (fun h => h), hf]
  obtain ⟨H4, hH4⟩ : ∃ H4, H3.set b (.cells [v3] T.ref26_Histogram true) = H4 := ⟨_, rfl⟩
  have f4 : H4.f b = .cells [v3] T.ref26_Histogram true := by rw [← hH4]; exact set_f_eq
  have fr4 : Fr (fun c => c = b) H3 H4 := by rw [← hH4]; exact (Fr.refl H3).set b _ fun _ => rfl
  have hone : Eng.one v3 = true := o3.cell
  have o4 : Own ECo H4 T.ref26_Counted v3 (L ++ [(n, t)]) := o3.keep fr4 fun c hc h => by have := hb3' c hc; omega
  refine ⟨v3, H4, (d_ref26_Histogram_Add _ _ _ H (r := (.int .i64 0, H4)) ?_).trans (congrArg some (tidy_turned hb (ok b) (by rw [← hH4, set_v_eq]; exact s3.clk))), f4, o4.rd, fun c hc => ⟨hb3' c hc, o4.blk hc⟩, (s3.still).trans fr4⟩
  by_cases hn0 : n = 0
  · have h4 : ¬ (0 : Int) < (n : Int) := by omega
    simp (disch := first | with_reducible rfl | assumption | omega | rfl | (simp only [go_sem]; first | done | omega)) only [go_sem, ↓reduceIte, reduceCtorEq, Nat.reduceEqDiff, Nat.reduceAdd, Nat.reduceSub, Nat.reduceMul, Nat.reduceDiv, Nat.reduceMod, Nat.reduceLeDiff, Nat.reduceLT, Nat.reduceBEq, Int.reduceEq, Int.reduceBEq, Int.reduceBNe, Int.reduceLT, Int.reduceLE, Int.reduceAdd, Int.reduceSub, Int.reduceNeg, Int.reduceToNat, Int.reducePow, Nat.reducePow, Int.reduceMul, Int.reduceDiv, ↓s_ref26_Histogram_Add, a1, a2, a3, a4, a5, ↓enterK_eq e1, enterK_eq e1, a6, h4, hf, happ, hH2, happ3, f3, hH4, hone]
  · have h4 : (0 : Int) < (n : Int) := by omega
    have hq : ∀ ox oy, xbin Try.prog .quo T.int ox oy (.int .i64 (4611686018427387904 - (sumR L : Int))) (.int .i64 (n : Int)) = some (.int .i64 ((4611686018427387904 - (sumR L : Int)) / (n : Int))) := fun ox oy => quoI (by omega) h4 (by omega)
    have h5 : ¬ (4611686018427387904 - (sumR L : Int)) / (n : Int) < (t : Int) := by
      have : (t : Int) ≤ (4611686018427387904 - (sumR L : Int)) / (n : Int) := (Int.le_ediv_iff_mul_le h4).2 (by
        rw [Int.mul_comm]
        have e : ((n * t : Nat) : Int) = (n : Int) * (t : Int) := Int.natCast_mul _ _
        omega)
      omega
    simp (disch := first | with_reducible rfl | assumption | omega | rfl | (simp only [go_sem]; first | done | omega)) only [go_sem, ↓reduceIte, reduceCtorEq, Nat.reduceEqDiff, Nat.reduceAdd, Nat.reduceSub, Nat.reduceMul, Nat.reduceDiv, Nat.reduceMod, Nat.reduceLeDiff, Nat.reduceLT, Nat.reduceBEq, Int.reduceEq, Int.reduceBEq, Int.reduceBNe, Int.reduceLT, Int.reduceLE, Int.reduceAdd, Int.reduceSub, Int.reduceNeg, Int.reduceToNat, Int.reducePow, Nat.reducePow, Int.reduceMul, Int.reduceDiv, ↓s_ref26_Histogram_Add, a1, a2, a3, a4, a5, ↓enterK_eq e1, enterK_eq e1, a6, h4, ↓enterK_eq e2, enterK_eq e2, ↓hq, hq, decide_eq_false h5, hf, happ, hH2, happ3, f3, hH4, hone]

theorem q_rMerge_full {M : List Co} {w : Value} {a : Nat} (hf : H.f b = .cells [v] T.ref26_Histogram true) (hr : Rd ECo H v L) (hL : Okc L) (hg : H.f a = .cells [w] T.ref26_Histogram true) (hw : Rd ECo H w M) (hM : Okc M) (hfu : fullM L M = true) :
    CC F.ref26_Histogram_Merge [.pointer (some ⟨b, 0, none⟩), .pointer (some ⟨a, 0, none⟩)] H = some (.int .i64 7, H) := by
  have h3 : 1099511627776 < cntR L + cntR M ∨ 4611686018427387904 < sumR L + sumR M := by unfold fullM at hfu; simpa using hfu
  have e1 := q_rCount hf hr hL
  have e2 := q_rSum hf hr hL
  have e3 := q_rCount hg hw hM
  have e4 := q_rSum hg hw hM
  have c1 := hL.c
  have c2 := hM.c
  have c3 := hL.s
  have c4 := hM.s
  by_cases a1 : (1099511627776 : Int) < (cntR L : Int) + (cntR M : Int)
  · apply pure_of _ (d_ref26_Histogram_Merge _ _ H) rfl
    rotate_left 2
    · simp (disch := first | with_reducible rfl | assumption | omega | rfl | (simp only [go_sem]; first | done | omega)) only [go_sem, ↓reduceIte, reduceCtorEq, Nat.reduceEqDiff, Nat.reduceAdd, Nat.reduceSub, Nat.reduceMul, Nat.reduceDiv, Nat.reduceMod, Nat.reduceLeDiff, Nat.reduceLT, Nat.reduceBEq, Int.reduceEq, Int.reduceBEq, Int.reduceBNe, Int.reduceLT, Int.reduceLE, Int.reduceAdd, Int.reduceSub, Int.reduceNeg, Int.reduceToNat, Int.reducePow, Nat.reducePow, Int.reduceMul, Int.reduceDiv, ↓s_ref26_Histogram_Merge, ↓enterK_eq e1, enterK_eq e1, ↓enterK_eq e3, enterK_eq e3, a1]
      rfl
    · (repeat (first | exact Fr.refl _ | refine Fr.push ?_ _ | refine Fr.set ?_ _ _ (by intro h; first | omega | (simp only [go_sem] at h; omega))))
  · have a2 : (4611686018427387904 : Int) - (sumR L : Int) < (sumR M : Int) := by omega
    apply pure_of _ (d_ref26_Histogram_Merge _ _ H) rfl
    rotate_left 2
    · simp (disch := first | with_reducible rfl | assumption | omega | rfl | (simp only [go_sem]; first | done | omega)) only [go_sem, ↓reduceIte, reduceCtorEq, Nat.reduceEqDiff, Nat.reduceAdd, Nat.reduceSub, Nat.reduceMul, Nat.reduceDiv, Nat.reduceMod, Nat.reduceLeDiff, Nat.reduceLT, Nat.reduceBEq, Int.reduceEq, Int.reduceBEq, Int.reduceBNe, Int.reduceLT, Int.reduceLE, Int.reduceAdd, Int.reduceSub, Int.reduceNeg, Int.reduceToNat, Int.reducePow, Nat.reducePow, Int.reduceMul, Int.reduceDiv, ↓s_ref26_Histogram_Merge, ↓enterK_eq e1, enterK_eq e1, ↓enterK_eq e3, enterK_eq e3, a1, ↓enterK_eq e2, enterK_eq e2, ↓enterK_eq e4, enterK_eq e4, a2]
      rfl
    · (repeat (first | exact Fr.refl _ | refine Fr.push ?_ _ | refine Fr.set ?_ _ _ (by intro h; first | omega | (simp only [go_sem] at h; omega))))

theorem q_rMerge_ok {M : List Co} {w : Value} {a : Nat} (hf : H.f b = .cells [v] T.ref26_Histogram true) (hb : b < H.n) (hr : Rd ECo H v L) (ok : ∀ b, H.ver b < H.clk) (hL : Okc L) (hlen : L.length ≤ 1000) (hg : H.f a = .cells [w] T.ref26_Histogram true) (ha : a < H.n) (hw : Rd ECo H w M) (hM : Okc M) (hlen2 : M.length ≤ 1000) (hfu : fullM L M = false) :
    ∃ v' H', CC F.ref26_Histogram_Merge [.pointer (some ⟨b, 0, none⟩), .pointer (some ⟨a, 0, none⟩)] H = some (.int .i64 0, H') ∧ H'.f b = .cells [v'] T.ref26_Histogram true ∧ Rd ECo H' v' (L ++ M) ∧ (∀ c, blockOf v' = some c → H.n ≤ c ∧ c < H'.n) ∧ Fr (fun c => c = b) H H' := by
  have h3 : ¬ (1099511627776 < cntR L + cntR M ∨ 4611686018427387904 < sumR L + sumR M) := by unfold fullM at hfu; simpa using hfu
  have e1 := q_rCount hf hr hL
  have e2 := q_rSum hf hr hL
  have e3 := q_rCount hg hw hM
  have e4 := q_rSum hg hw hM
  have c1 := hL.c
  have c2 := hM.c
  have c3 := hL.s
  have c4 := hM.s
  have a1 : ¬ (1099511627776 : Int) < (cntR L : Int) + (cntR M : Int) := by omega
  have a2 : ¬ (4611686018427387904 : Int) - (sumR L : Int) < (sumR M : Int) := by omega
  obtain ⟨v1, H1, happ, o1, fr1, hb1⟩ := Own.appA (E := ECo) (e := T.ref26_Counted) (H := H) (v := .slice none 0 0) (l := []) (.inl ⟨rfl, rfl⟩) L (sz := 2) (bytes := 16) rfl (by simp; omega) (by simp; omega) (hr.src (sz := 2) rfl)
  have s1 : Still H H1 := fr1.mono fun c _ h => by unfold OnlyOf at h; cases h
  have hb1' : ∀ c, blockOf v1 = some c → H.n ≤ c := fun c h => by
    rcases hb1 with hb | hb
    · rw [hb] at h; cases h
    · rw [hb] at h; cases h; exact Nat.le_refl _
  rw [List.nil_append] at o1
  have g1 : H1.f a = .cells [w] T.ref26_Histogram true := by rw [s1.f ha (fun h => h), hg]
  obtain ⟨v3, H3, happ3, o3, fr3, hb3⟩ := o1.appA M (sz := 2) (bytes := 16) rfl (by omega) (by omega) ((hw.still s1).src (sz := 2) rfl)
  have n1 := s1.n
  have n3 := fr3.n
  have hb3' : ∀ c, blockOf v3 = some c → H.n ≤ c := fun c h => by
    rcases hb3 with hb | hb
    · rw [hb] at h; exact hb1' c h
    · rw [hb] at h; cases h; omega
  have s3 : Still H H3 := s1.then fr3 fun c hc h => by unfold OnlyOf at h; have := hb1' c h; omega
  have f3 : H3.f b = .cells [v] T.ref26_Histogram true := by rw [s3.f hb (fun h => h), hf]
  obtain ⟨H4, hH4⟩ : ∃ H4, H3.set b (.cells [v3] T.ref26_Histogram true) = H4 := ⟨_, rfl⟩
  have f4 : H4.f b = .cells [v3] T.ref26_Histogram true := by rw [← hH4]; exact set_f_eq
  have fr4 : Fr (fun c => c = b) H3 H4 := by rw [← hH4]; exact (Fr.refl H3).set b _ fun _ => rfl
  have hone : Eng.one v3 = true := o3.cell
  have o4 : Own ECo H4 T.ref26_Counted v3 (L ++ M) := o3.keep fr4 fun c hc h => by have := hb3' c hc; omega
  have k1 : H.n ≤ a ∨ H1.ver a = H.ver a := .inr (s1.ver ha fun h => h)
  refine ⟨v3, H4, (d_ref26_Histogram_Merge _ _ H (r := (.int .i64 0, H4)) ?_).trans (congrArg some (tidy_turned hb (ok b) (by rw [← hH4, set_v_eq]; exact s3.clk))), f4, o4.rd, fun c hc => ⟨hb3' c hc, o4.blk hc⟩, (s3.still).trans fr4⟩
  simp (disch := first | with_reducible rfl | assumption | omega | rfl | (simp only [go_sem]; first | done | omega)) only [go_sem, ↓reduceIte, reduceCtorEq, Nat.reduceEqDiff, Nat.reduceAdd, Nat.reduceSub, Nat.reduceMul, Nat.reduceDiv, Nat.reduceMod, Nat.reduceLeDiff, Nat.reduceLT, Nat.reduceBEq, Int.reduceEq, Int.reduceBEq, Int.reduceBNe, Int.reduceLT, Int.reduceLE, Int.reduceAdd, Int.reduceSub, Int.reduceNeg, Int.reduceToNat, Int.reducePow, Nat.reducePow, Int.reduceMul, Int.reduceDiv, ↓s_ref26_Histogram_Merge, ↓enterK_eq e1, enterK_eq e1, ↓enterK_eq e3, enterK_eq e3, a1, ↓enterK_eq e2, enterK_eq e2, ↓enterK_eq e4, enterK_eq e4, a2, hf, happ, g1, happ3, f3, hH4, hone]

/-! ### ends -/
theorem l_rEnds (hf : H.f b = .cells [v] T.ref26_Histogram true) (hr : Rd ECo H v L) (hn : L.length ≤ 1099511627776) (K : K) : ∀ (m : List Co) (i x y : Nat), L.drop i = m → i ≤ L.length →
    l_ref26_Histogram_Ends_0 (.pointer (some ⟨b, 0, none⟩)) (.int .i64 (x : Int)) (.int .i64 (y : Int)) (.int .i64 (i : Int)) H (blkK [4, 5] 0 K) = K .normal [(4, .int .i64 (((m.map (·.1)).foldl min x : Nat) : Int)), (5, .int .i64 (((m.map (·.1)).foldl max y : Nat) : Int))] H
  | [], i, x, y, hm, hi => by
    have h : L.length ≤ i := List.drop_eq_nil_iff.1 hm
    have hlt : ¬ (i : Int) < (L.length : Int) := by omega
    have hlen := hr.lenS
    rw [r_ref26_Histogram_Ends_0]
    simp (disch := first | with_reducible rfl | assumption | omega | rfl | (simp only [go_sem]; first | done | omega)) only [go_sem, ↓reduceIte, reduceCtorEq, Nat.reduceEqDiff, Nat.reduceAdd, Nat.reduceSub, Nat.reduceMul, Nat.reduceDiv, Nat.reduceMod, Nat.reduceLeDiff, Nat.reduceLT, Nat.reduceBEq, Int.reduceEq, Int.reduceBEq, Int.reduceBNe, Int.reduceLT, Int.reduceLE, Int.reduceAdd, Int.reduceSub, Int.reduceNeg, Int.reduceToNat, Int.reducePow, Nat.reducePow, Int.reduceMul, Int.reduceDiv, ↓s_ref26_Histogram_Ends_b0, hf, hlen, hlt]
  | p :: m, i, x, y, hm, hi => by
    obtain ⟨h, hp, hm'⟩ := drop_cons' hm
    have hlt : (i : Int) < (L.length : Int) := by omega
    have hlen := hr.lenS
    have ih := l_rEnds hf hr hn K m (i + 1) (min x p.1) (max y p.1) hm' h
    obtain ⟨bb, o, ix, c1, c2, _, _⟩ := Rd.co hr h
    rw [hp] at c1 c2
    have m1 : ∀ (ts : List TypeId) (H : AHeap), xbuiltin Try.prog .min ts [.int .i64 (x : Int), .int .i64 (p.1 : Int)] H = some (.val (.int .i64 ((min x p.1 : Nat) : Int)) H) := fun ts H => minN
    have m2 : ∀ (ts : List TypeId) (H : AHeap), xbuiltin Try.prog .max ts [.int .i64 (y : Int), .int .i64 (p.1 : Int)] H = some (.val (.int .i64 ((max y p.1 : Nat) : Int)) H) := fun ts H => maxN
    rw [Int.natCast_add i 1] at ih
    rw [r_ref26_Histogram_Ends_0, List.map_cons, List.foldl_cons, List.foldl_cons]
    simp (disch := first | with_reducible rfl | assumption | omega | rfl | (simp only [go_sem]; first | done | omega)) only [go_sem, ↓reduceIte, reduceCtorEq, Nat.reduceEqDiff, Nat.reduceAdd, Nat.reduceSub, Nat.reduceMul, Nat.reduceDiv, Nat.reduceMod, Nat.reduceLeDiff, Nat.reduceLT, Nat.reduceBEq, Int.reduceEq, Int.reduceBEq, Int.reduceBNe, Int.reduceLT, Int.reduceLE, Int.reduceAdd, Int.reduceSub, Int.reduceNeg, Int.reduceToNat, Int.reducePow, Nat.reducePow, Int.reduceMul, Int.reduceDiv, ↓s_ref26_Histogram_Ends_b0, hf, hlen, hlt, ix, c1, c2, ↓m1, m1, ↓m2, m2]
    exact ih

theorem foldl_min_spec : ∀ (l : List Nat) (x : Nat), l.foldl min x ≤ x ∧ (∀ n ∈ l, l.foldl min x ≤ n) ∧ (l.foldl min x = x ∨ l.foldl min x ∈ l)
  | [], x => ⟨Nat.le_refl _, fun _ h => by simp at h, .inl rfl⟩
  | a :: l, x => by
    obtain ⟨h1, h2, h3⟩ := foldl_min_spec l (min x a)
    rw [List.foldl_cons]
    refine ⟨by omega, fun n hn => ?_, ?_⟩
    · rcases List.mem_cons.1 hn with rfl | hn
      · omega
      · exact h2 n hn
    · rcases h3 with h3 | h3
      · rw [h3]
        by_cases h : x ≤ a
        · left; omega
        · right; rw [Nat.min_eq_right (by omega)]; simp
      · right; exact List.mem_cons_of_mem _ h3
theorem foldl_max_spec : ∀ (l : List Nat) (x : Nat), x ≤ l.foldl max x ∧ (∀ n ∈ l, n ≤ l.foldl max x) ∧ (l.foldl max x = x ∨ l.foldl max x ∈ l)
  | [], x => ⟨Nat.le_refl _, fun _ h => by simp at h, .inl rfl⟩
  | a :: l, x => by
    obtain ⟨h1, h2, h3⟩ := foldl_max_spec l (max x a)
    rw [List.foldl_cons]
    refine ⟨by omega, fun n hn => ?_, ?_⟩
    · rcases List.mem_cons.1 hn with rfl | hn
      · omega
      · exact h2 n hn
    · rcases h3 with h3 | h3
      · rw [h3]
        by_cases h : a ≤ x
        · left; omega
        · right; rw [Nat.max_eq_right (by omega)]; simp
      · right; exact List.mem_cons_of_mem _ h3
theorem ex_mem {L : List Co} (h : WfC L) (n : Nat) : n ∈ ex L ↔ n ∈ L.map (·.1) := by
  constructor
  · intro hn
    obtain ⟨p, hp, hn⟩ := List.mem_flatMap.1 hn
    rw [List.eq_of_mem_replicate hn]
    exact List.mem_map_of_mem hp
  · intro hn
    obtain ⟨p, hp, rfl⟩ := List.mem_map.1 hn
    exact List.mem_flatMap.2 ⟨p, hp, List.mem_replicate.2 ⟨by have := (h p hp).2; omega, rfl⟩⟩
theorem ends_eq {p : Co} {L : List Co} (h : WfC (p :: L)) : ((p :: L).map (·.1)).foldl min p.1 = mnL (ex (p :: L)) ∧ ((p :: L).map (·.1)).foldl max p.1 = mxL (ex (p :: L)) := by
  have hne : ex (p :: L) ≠ [] := fun e => by have := (ex_nil h).1 e; cases this
  obtain ⟨a1, a2, a3⟩ := foldl_min_spec ((p :: L).map (·.1)) p.1
  obtain ⟨b1, b2, b3⟩ := foldl_max_spec ((p :: L).map (·.1)) p.1
  have hp : p.1 ∈ (p :: L).map (·.1) := by simp
  have a4 : ((p :: L).map (·.1)).foldl min p.1 ∈ (p :: L).map (·.1) := a3.elim (fun e => by rw [e]; exact hp) id
  have b4 : ((p :: L).map (·.1)).foldl max p.1 ∈ (p :: L).map (·.1) := b3.elim (fun e => by rw [e]; exact hp) id
  exact ⟨Nat.le_antisymm (a2 _ ((ex_mem h _).1 (mnL_mem hne))) (mnL_le ((ex_mem h _).2 a4)), Nat.le_antisymm (le_mxL ((ex_mem h _).2 b4)) (b2 _ ((ex_mem h _).1 (mxL_mem hne)))⟩

theorem q_rEnds (hf : H.f b = .cells [v] T.ref26_Histogram true) (hr : Rd ECo H v L) (hL : Okc L) (hne : L ≠ []) :
    CC F.ref26_Histogram_Ends [.pointer (some ⟨b, 0, none⟩)] H = some (.tuple ⟨[.int .i64 (mnL (ex L) : Int), .int .i64 (mxL (ex L) : Int)]⟩, H) := by
  obtain ⟨p, M, rfl⟩ : ∃ p M, L = p :: M := by
    cases L with
    | nil => exact absurd rfl hne
    | cons p M => exact ⟨p, M, rfl⟩
  obtain ⟨bb, o, ix, c1, c2, _, _⟩ := Rd.co hr (i := 0) (by simp)
  have ix : ixS 2 v (.int .i64 0) = some (.pointer (some ⟨bb, o, none⟩)) := ix
  have c1 : cellB (H.f bb) o = some (.int .i64 (p.1 : Int)) := c1
  obtain ⟨e1, e2⟩ := ends_eq hL.wf
  have hl : ∀ K, l_ref26_Histogram_Ends_0 (.pointer (some ⟨b, 0, none⟩)) (.int .i64 (p.1 : Int)) (.int .i64 (p.1 : Int)) (.int .i64 0) H (blkK [4, 5] 0 K) = K .normal [(4, .int .i64 (mnL (ex (p :: M)) : Int)), (5, .int .i64 (mxL (ex (p :: M)) : Int))] H := fun K => by
    have := l_rEnds hf hr hL.len K (p :: M) 0 p.1 p.1 rfl (Nat.zero_le _)
    rw [e1, e2] at this
    exact this
  apply pure_of _ (d_ref26_Histogram_Ends _ H) rfl
  rotate_left 2
  · simp (disch := first | with_reducible rfl | assumption | omega | rfl | (simp only [go_sem]; first | done | omega)) only [go_sem, ↓reduceIte, reduceCtorEq, Nat.reduceEqDiff, Nat.reduceAdd, Nat.reduceSub, Nat.reduceMul, Nat.reduceDiv, Nat.reduceMod, Nat.reduceLeDiff, Nat.reduceLT, Nat.reduceBEq, Int.reduceEq, Int.reduceBEq, Int.reduceBNe, Int.reduceLT, Int.reduceLE, Int.reduceAdd, Int.reduceSub, Int.reduceNeg, Int.reduceToNat, Int.reducePow, Nat.reducePow, Int.reduceMul, Int.reduceDiv, ↓s_ref26_Histogram_Ends, hf, ix, c1, hl]
    rfl
  · (repeat (first | exact Fr.refl _ | refine Fr.push ?_ _ | refine Fr.set ?_ _ _ (by intro h; first | omega | (simp only [go_sem] at h; omega))))
end

end Go.Proofs.Ytplblfcofplcmaa

/-
  Chapter 26: the reference's buckets and quantiles; histograms that are alike.
  Conditions: none. By an AI agent.
-/
set_option maxRecDepth 10000
set_option linter.unusedSimpArgs false
set_option linter.unusedVariables false
namespace Go.Proofs.Ytplblfcofplcmaa
open Go Eng
attribute [local congr] bareK_congr bothK_congr

theorem bkv_seti (x : Hi) {i : Nat} (h : i < 42) (n : Int) : (bkv x).set i (.int .i64 n) = bkv { x with bk := upd x.bk i n } := by
  apply List.ext_getElem?
  intro j
  by_cases hj : j < 42
  · rw [bkv_i _ hj, List.getElem?_set, bkv_i x hj, bkv_len]
    unfold upd
    by_cases e : i = j
    · subst e; simp [h]
    · have e' : ¬ j = i := fun h => e h.symm
      simp [e, e']
  · rw [List.getElem?_eq_none (by rw [List.length_set, bkv_len]; omega), List.getElem?_eq_none (by rw [bkv_len]; omega)]
theorem bk_rep (A : List Nat) (n t : Nat) : bkv { ofL A with bk := upd (ofL A).bk (lenN n) ((ofL A).bk (lenN n) + (t : Int)) } = bkv (ofL (A ++ List.replicate t n)) := by
  unfold bkv
  have : (upd (ofL A).bk (lenN n) ((ofL A).bk (lenN n) + (t : Int))) = (ofL (A ++ List.replicate t n)).bk := by
    funext j
    show upd (ofL A).bk (lenN n) ((ofL A).bk (lenN n) + (t : Int)) j = (((A ++ List.replicate t n).countP fun n => lenN n == j : Nat) : Int)
    rw [List.countP_append, List.countP_replicate]
    unfold upd
    by_cases h : j = lenN n
    · subst h
      rw [if_pos rfl]
      simp [ofL]
    · have h' : ¬ lenN n = j := fun e => h e.symm
      rw [if_neg h]
      simp [ofL, h']
  rw [this]

section
variable {L : List Co} {v : Value} {b : Nat}

theorem l_rBuckets (t2 : Value) (d : Nat) (hL : Okc L) (hbd : b ≠ d) (hvd : blockOf v ≠ some d) : ∀ (m : List Co) (i : Nat) (A : List Nat) (H : AHeap), L.drop i = m → i ≤ L.length → A.length + cntR m ≤ 1099511627776 → H.f b = .cells [v] T.ref26_Histogram true → Rd ECo H v L → H.f d = .cells (bkv (ofL A)) T.n42_int true →
    ∃ H', (∀ K, l_ref26_Histogram_Buckets_0 (.pointer (some ⟨b, 0, none⟩)) t2 (.pointer (some ⟨d, 0, none⟩)) (.int .i64 (i : Int)) H (blkK [2, 3] 0 K) = K .normal [(2, t2), (3, .pointer (some ⟨d, 0, none⟩))] H') ∧
      H'.f d = .cells (bkv (ofL (A ++ ex m))) T.n42_int true ∧ Fr (fun c => c = d) H H'
  | [], i, A, H, hm, hi, hA, hf, hr, hd => by
    have h : L.length ≤ i := List.drop_eq_nil_iff.1 hm
    have hlt : ¬ (i : Int) < (L.length : Int) := by omega
    have hlen := hr.lenS
    refine ⟨H, fun K => ?_, by simpa [ex] using hd, Fr.refl H⟩
    rw [r_ref26_Histogram_Buckets_0]
    simp (disch := first | with_reducible rfl | assumption | omega | rfl | (simp only [go_sem]; first | done | omega)) only [go_sem, ↓reduceIte, reduceCtorEq, Nat.reduceEqDiff, Nat.reduceAdd, Nat.reduceSub, Nat.reduceMul, Nat.reduceDiv, Nat.reduceMod, Nat.reduceLeDiff, Nat.reduceLT, Nat.reduceBEq, Int.reduceEq, Int.reduceBEq, Int.reduceBNe, Int.reduceLT, Int.reduceLE, Int.reduceAdd, Int.reduceSub, Int.reduceNeg, Int.reduceToNat, Int.reducePow, Nat.reducePow, Int.reduceMul, Int.reduceDiv, ↓s_ref26_Histogram_Buckets_b0, hf, hlen, hlt]
  | p :: m, i, A, H, hm, hi, hA, hf, hr, hd => by
    obtain ⟨h, hp, hm'⟩ := drop_cons' hm
    have hlt : (i : Int) < (L.length : Int) := by omega
    have hlen := hr.lenS
    have hL2 := hL.len
    obtain ⟨bb, o, ix, c1, c2, _, _⟩ := Rd.co hr h
    rw [hp] at c1 c2
    have hpw := hL.wf p (by rw [← hp]; exact List.getElem_mem _)
    have hl := lenN_le hpw.1
    have hlI : (0 : Int) ≤ (lenN p.1 : Int) ∧ (lenN p.1 : Int) < (42 : Nat) := by omega
    have e : cntR (p :: m) = p.2 + cntR m := by simp [cntR]
    have hb := q_rBucket p.1 hpw.1 H
    have hcell := bkv_i (ofL A) (show lenN p.1 < 42 by omega)
    have hbk : 0 ≤ (ofL A).bk (lenN p.1) ∧ (ofL A).bk (lenN p.1) ≤ A.length := by
      have : A.countP (fun n => lenN n == lenN p.1) ≤ A.length := List.countP_le_length
      show 0 ≤ ((A.countP (fun n => lenN n == lenN p.1) : Nat) : Int) ∧ ((A.countP (fun n => lenN n == lenN p.1) : Nat) : Int) ≤ _
      omega
    have hset := bkv_seti (ofL A) (show lenN p.1 < 42 by omega) ((ofL A).bk (lenN p.1) + (p.2 : Int))
    rw [bk_rep] at hset
    obtain ⟨H1, hH1⟩ : ∃ H1, H.set d (.cells (bkv (ofL (A ++ List.replicate p.2 p.1))) T.n42_int true) = H1 := ⟨_, rfl⟩
    have fr1 : Fr (fun c => c = d) H H1 := by rw [← hH1]; exact (Fr.refl H).set d _ fun _ => rfl
    obtain ⟨H', hl', g1, g2⟩ := l_rBuckets t2 d hL hbd hvd m (i + 1) (A ++ List.replicate p.2 p.1) H1 hm' h (by simp; omega) (by rw [← hH1, set_f_ne hbd]; exact hf) (hr.keep fr1 fun c hc h => hvd (by rw [hc, h])) (by rw [← hH1]; exact set_f_eq)
    have hlen42 : lenN p.1 < (bkv (ofL A)).length := by rw [bkv_len]; omega
    obtain ⟨X, hX⟩ : ∃ X, (ofL A).bk (lenN p.1) = X := ⟨_, rfl⟩
    rw [hX] at hcell hbk hset
    refine ⟨H', fun K => ?_, ?_, fr1.trans g2⟩
    · have ih := hl' K
      rw [Int.natCast_add i 1] at ih
      rw [r_ref26_Histogram_Buckets_0]
      simp (disch := first | with_reducible rfl | assumption | omega | rfl | (simp only [go_sem]; first | done | omega)) only [go_sem, ↓reduceIte, reduceCtorEq, Nat.reduceEqDiff, Nat.reduceAdd, Nat.reduceSub, Nat.reduceMul, Nat.reduceDiv, Nat.reduceMod, Nat.reduceLeDiff, Nat.reduceLT, Nat.reduceBEq, Int.reduceEq, Int.reduceBEq, Int.reduceBNe, Int.reduceLT, Int.reduceLE, Int.reduceAdd, Int.reduceSub, Int.reduceNeg, Int.reduceToNat, Int.reducePow, Nat.reducePow, Int.reduceMul, Int.reduceDiv, ↓s_ref26_Histogram_Buckets_b0, hf, hlen, hlt, ix, c1, c2, ↓enterK_eq hb, enterK_eq hb, hlI, hd, hcell, hset, hH1, hlen42, Int.toNat_natCast, Nat.zero_add, Nat.mul_one]
      exact ih
    · rw [g1]
      have : A ++ ex (p :: m) = A ++ List.replicate p.2 p.1 ++ ex m := by simp [ex]
      rw [this]

theorem xl_bk {H : AHeap} {d : Nat} {x : Hi} (g : H.f d = .cells (bkv x) T.n42_int true) : xload Try.prog T.n42_int (.pointer (some ⟨d, 0, none⟩)) H = some (.agg ⟨bkv x⟩) := by
  have e : xload Try.prog T.n42_int (.pointer (some ⟨d, 0, none⟩)) H = ldN 42 H (.pointer (some ⟨d, 0, none⟩)) := by
    unfold xload
    rw [show row? Try.prog T.n42_int = some true by kernel_rfl, show Try.prog.cellsOf T.n42_int = 42 by kernel_rfl]
  rw [e, ldN_b, g, cut_bk]
  rfl

theorem q_rBuckets {H : AHeap} (hL : Okc L) (hf : H.f b = .cells [v] T.ref26_Histogram true) (hb : b < H.n) (hr : Rd ECo H v L) (hv : ∀ c, blockOf v = some c → c < H.n) :
    CC F.ref26_Histogram_Buckets [.pointer (some ⟨b, 0, none⟩)] H = some (.agg ⟨bkv (ofL (ex L))⟩, H) := by
  obtain ⟨H1, hH1⟩ : ∃ H1, H.push (.cells (bkv zHi) T.n42_int true) = H1 := ⟨_, rfl⟩
  obtain ⟨H2, hH2⟩ : ∃ H2, H1.push (.cells (bkv zHi) T.n42_int true) = H2 := ⟨_, rfl⟩
  have n1 : H1.n = H.n + 1 := by rw [← hH1]; rfl
  have n2 : H2.n = H.n + 2 := by rw [← hH2]; show H1.n + 1 = _; omega
  have s2 : Still H H2 := by rw [← hH2, ← hH1]; exact ((Fr.refl H).push _).push _
  have g2 : H2.f (H.n + 1) = .cells (bkv zHi) T.n42_int true := by rw [← hH2]; exact push_f_eq n1.symm
  have g2a : H2.f H.n = .cells (bkv zHi) T.n42_int true := by rw [← hH2, push_f_ne (by omega), ← hH1]; exact push_f_eq rfl
  have g2b : H2.f b = .cells [v] T.ref26_Histogram true := by rw [s2.f hb fun h => h]; exact hf
  have hc := hL.c
  obtain ⟨H3, hl, g3, fr3⟩ := l_rBuckets (.pointer (some ⟨H.n, 0, none⟩)) (H.n + 1) hL (by omega) (fun h => by have := hv _ h; omega) L 0 [] H2 rfl (Nat.zero_le _) (by simp; omega) g2b (hr.still s2) g2
  have hl : ∀ K, l_ref26_Histogram_Buckets_0 (.pointer (some ⟨b, 0, none⟩)) (.pointer (some ⟨H.n, 0, none⟩)) (.pointer (some ⟨H.n + 1, 0, none⟩)) (.int .i64 0) H2 (blkK [2, 3] 0 K) = K .normal [(2, .pointer (some ⟨H.n, 0, none⟩)), (3, .pointer (some ⟨H.n + 1, 0, none⟩))] H3 := hl
  rw [List.nil_append] at g3
  have g3a : H3.f H.n = .cells (bkv zHi) T.n42_int true := by rw [fr3.f (by omega) (by omega)]; exact g2a
  have s3 : Still H H3 := s2.then fr3 fun c hc h => by omega
  have hst := st_bk zHi (ofL (ex L)) g3a
  obtain ⟨H4, hH4⟩ : ∃ H4, H3.set H.n (.cells (bkv (ofL (ex L))) T.n42_int true) = H4 := ⟨_, rfl⟩
  rw [hH4] at hst
  have s4 : Still H H4 := by rw [← hH4]; exact Fr.set s3 _ _ fun h => by omega
  have g4 : H4.f H.n = .cells (bkv (ofL (ex L))) T.n42_int true := by rw [← hH4]; exact set_f_eq
  have hld := xl_bk g4
  apply pure_of _ (d_ref26_Histogram_Buckets _ H) rfl
  rotate_left 2
  · simp (disch := first | with_reducible rfl | assumption | omega | rfl | (simp only [go_sem]; first | done | omega)) only [go_sem, ↓reduceIte, reduceCtorEq, Nat.reduceEqDiff, Nat.reduceAdd, Nat.reduceSub, Nat.reduceMul, Nat.reduceDiv, Nat.reduceMod, Nat.reduceLeDiff, Nat.reduceLT, Nat.reduceBEq, Int.reduceEq, Int.reduceBEq, Int.reduceBNe, Int.reduceLT, Int.reduceLE, Int.reduceAdd, Int.reduceSub, Int.reduceNeg, Int.reduceToNat, Int.reducePow, Nat.reducePow, Int.reduceMul, Int.reduceDiv, ↓s_ref26_Histogram_Buckets, ↓bk_push, bk_push, hH1, hH2, n1, hl, g3, cut_bk, ↓hst, hst, hld]
    rfl
  · exact s4

/-! ### quantiles -/
def rqL (x : Hi) (p : Int) : Nat → Nat → Int → Int
  | 0, _, _ => -1
  | d + 1, i, r => if 0 < x.bk i ∧ p * x.c ≤ 1000 * (r + x.bk i) then min (hiN i) x.h else rqL x p d (i + 1) (r + x.bk i)

theorem rq_eq {A : List Nat} (hL : Low A) {p : Int} (hp : 0 ≤ p ∧ p ≤ 1000) : ∀ d i, i + d = 42 → below A i < A.length → rqL (ofL A) p d i (below A i) = qtL (ofL A) p d i (below A i)
  | 0, i, hi, h => by
    exfalso
    have : below A i = A.length := List.countP_eq_length.2 fun n hn => by
      have := lenN_le (hL n hn)
      simp; omega
    omega
  | d + 1, i, hi, h => by
    rw [rqL, qtL]
    have e : ((below A i : Nat) : Int) + (ofL A).bk i = ((below A (i + 1) : Nat) : Int) := by rw [below_succ]; rfl
    rw [e]
    split
    · rfl
    · rename_i hc
      refine rq_eq hL hp d (i + 1) (by omega) ?_
      have hle : below A (i + 1) ≤ A.length := List.countP_le_length
      by_cases h2 : below A (i + 1) = A.length
      · exfalso
        apply hc
        rw [h2]
        refine ⟨by omega, ?_⟩
        show p * (A.length : Int) ≤ 1000 * (A.length : Int)
        exact Int.mul_le_mul_of_nonneg_right hp.2 (by omega)
      · omega

theorem l_rQuantile {H : AHeap} (hL : Okc L) (d : Nat) (p : Int) (hp : 0 ≤ p ∧ p ≤ 1000) (hf : H.f b = .cells [v] T.ref26_Histogram true) (hr : Rd ECo H v L) (hd : H.f d = .cells (bkv (ofL (ex L))) T.n42_int true) (K : K) : ∀ (k i : Nat) (r : Int), i + k = 42 → 0 ≤ r ∧ r ≤ i * 1099511627776 →
    l_ref26_Histogram_Quantile_0 (.pointer (some ⟨b, 0, none⟩)) (.int .i64 p) (.pointer (some ⟨d, 0, none⟩)) (.int .i64 (ofL (ex L)).h) (.int .i64 r) (.int .i64 (i : Int)) H (blkK [] 0 (seqK (fun _ h7 => K .ret [(4, .int .i64 (-1))] h7) K)) = K .ret [(4, .int .i64 (rqL (ofL (ex L)) p k i r))] H
  | 0, i, r, hi, hr' => by
    have h : ¬ (i : Int) < 42 := by omega
    rw [r_ref26_Histogram_Quantile_0, rqL]
    simp (disch := first | with_reducible rfl | assumption | omega | rfl | (simp only [go_sem]; first | done | omega)) only [go_sem, ↓reduceIte, reduceCtorEq, Nat.reduceEqDiff, Nat.reduceAdd, Nat.reduceSub, Nat.reduceMul, Nat.reduceDiv, Nat.reduceMod, Nat.reduceLeDiff, Nat.reduceLT, Nat.reduceBEq, Int.reduceEq, Int.reduceBEq, Int.reduceBNe, Int.reduceLT, Int.reduceLE, Int.reduceAdd, Int.reduceSub, Int.reduceNeg, Int.reduceToNat, Int.reducePow, Nat.reducePow, Int.reduceMul, Int.reduceDiv, ↓s_ref26_Histogram_Quantile_b0, h]
  | k + 1, i, r, hi, hr' => by
    have h : (i : Int) < 42 := by omega
    have h' : i < 42 := by omega
    have hI : (0 : Int) ≤ (i : Int) ∧ (i : Int) < (42 : Nat) := by omega
    have hx := hL.oki
    have hk := hx.bk i h'
    have hc := hx.c
    have hcell := bkv_i (ofL (ex L)) h'
    have hcnt := q_rCount hf hr hL
    have ecx : (cntR L : Int) = (ofL (ex L)).c := by rw [← ex_len]; rfl
    rw [ecx] at hcnt
    have ih := l_rQuantile hL d p hp hf hr hd K k (i + 1) (r + (ofL (ex L)).bk i) (by omega) (by omega)
    rw [Int.natCast_add] at ih
    generalize ofL (ex L) = x at hx hk hc hcell hcnt ih hd ⊢
    have hm : ∀ ox oy, xbin Try.prog .mul T.int ox oy (.int .i64 p) (.int .i64 x.c) = some (.int .i64 (p * x.c)) := fun ox oy => by
      have h1 : p * x.c ≤ 1000 * 1099511627776 := Int.mul_le_mul hp.2 hc.2 hc.1 (by decide)
      have h2 : 0 ≤ p * x.c := Int.mul_nonneg hp.1 hc.1
      exact mul_i64 (by omega)
    rw [r_ref26_Histogram_Quantile_0, rqL]
    obtain ⟨X, hX⟩ : ∃ X, x.bk i = X := ⟨_, rfl⟩
    rw [hX] at hcell hk ih ⊢
    obtain ⟨R, hR⟩ : ∃ R, r + X = R := ⟨_, rfl⟩
    rw [hR] at ih ⊢
    by_cases hp0 : 0 < X
    · by_cases hq : p * x.c ≤ 1000 * R
      · rw [if_pos ⟨hp0, hq⟩]
        simp (disch := first | with_reducible rfl | assumption | omega | rfl | (simp only [go_sem]; first | done | omega)) only [go_sem, ↓reduceIte, reduceCtorEq, Nat.reduceEqDiff, Nat.reduceAdd, Nat.reduceSub, Nat.reduceMul, Nat.reduceDiv, Nat.reduceMod, Nat.reduceLeDiff, Nat.reduceLT, Nat.reduceBEq, Int.reduceEq, Int.reduceBEq, Int.reduceBNe, Int.reduceLT, Int.reduceLE, Int.reduceAdd, Int.reduceSub, Int.reduceNeg, Int.reduceToNat, Int.reducePow, Nat.reducePow, Int.reduceMul, Int.reduceDiv, ↓s_ref26_Histogram_Quantile_b0, h, hI, hd, hcell, hR, hp0, ↓enterK_eq hcnt, enterK_eq hcnt, ↓hm, hm, decide_eq_true hq, enterK_eq (q_rBounds i (by omega) H), Int.toNat_natCast, Nat.zero_add, Nat.mul_one]
      · rw [if_neg fun h => hq h.2]
        simp (disch := first | with_reducible rfl | assumption | omega | rfl | (simp only [go_sem]; first | done | omega)) only [go_sem, ↓reduceIte, reduceCtorEq, Nat.reduceEqDiff, Nat.reduceAdd, Nat.reduceSub, Nat.reduceMul, Nat.reduceDiv, Nat.reduceMod, Nat.reduceLeDiff, Nat.reduceLT, Nat.reduceBEq, Int.reduceEq, Int.reduceBEq, Int.reduceBNe, Int.reduceLT, Int.reduceLE, Int.reduceAdd, Int.reduceSub, Int.reduceNeg, Int.reduceToNat, Int.reducePow, Nat.reducePow, Int.reduceMul, Int.reduceDiv, ↓s_ref26_Histogram_Quantile_b0, h, hI, hd, hcell, hR, hp0, ↓enterK_eq hcnt, enterK_eq hcnt, ↓hm, hm, decide_eq_false hq, Int.toNat_natCast, Nat.zero_add, Nat.mul_one]
        exact ih
    · rw [if_neg fun h => hp0 h.1]
      simp (disch := first | with_reducible rfl | assumption | omega | rfl | (simp only [go_sem]; first | done | omega)) only [go_sem, ↓reduceIte, reduceCtorEq, Nat.reduceEqDiff, Nat.reduceAdd, Nat.reduceSub, Nat.reduceMul, Nat.reduceDiv, Nat.reduceMod, Nat.reduceLeDiff, Nat.reduceLT, Nat.reduceBEq, Int.reduceEq, Int.reduceBEq, Int.reduceBNe, Int.reduceLT, Int.reduceLE, Int.reduceAdd, Int.reduceSub, Int.reduceNeg, Int.reduceToNat, Int.reducePow, Nat.reducePow, Int.reduceMul, Int.reduceDiv, ↓s_ref26_Histogram_Quantile_b0, h, hI, hd, hcell, hR, hp0, Int.toNat_natCast, Nat.zero_add, Nat.mul_one]
      exact ih

theorem q_rQuantile {H : AHeap} (hL : Okc L) (hne : L ≠ []) (p : Int) (hp : 0 ≤ p ∧ p ≤ 1000) (hf : H.f b = .cells [v] T.ref26_Histogram true) (hb : b < H.n) (hr : Rd ECo H v L) (hv : ∀ c, blockOf v = some c → c < H.n) :
    CC F.ref26_Histogram_Quantile [.pointer (some ⟨b, 0, none⟩), .int .i64 p] H = some (.int .i64 (qtL (ofL (ex L)) p 42 0 0), H) := by
  have e1 := q_rBuckets hL hf hb hr hv
  obtain ⟨H1, hH1⟩ : ∃ H1, H.push (.cells (bkv zHi) T.n42_int true) = H1 := ⟨_, rfl⟩
  have n1 : H1.n = H.n + 1 := by rw [← hH1]; rfl
  have s1 : Still H H1 := by rw [← hH1]; exact (Fr.refl H).push _
  have g1 : H1.f H.n = .cells (bkv zHi) T.n42_int true := by rw [← hH1]; exact push_f_eq rfl
  have hst := st_bk zHi (ofL (ex L)) g1
  obtain ⟨H2, hH2⟩ : ∃ H2, H1.set H.n (.cells (bkv (ofL (ex L))) T.n42_int true) = H2 := ⟨_, rfl⟩
  rw [hH2] at hst
  have s2 : Still H H2 := by rw [← hH2]; exact Fr.set s1 _ _ fun h => by omega
  have g2 : H2.f H.n = .cells (bkv (ofL (ex L))) T.n42_int true := by rw [← hH2]; exact set_f_eq
  have g2b : H2.f b = .cells [v] T.ref26_Histogram true := by rw [s2.f hb fun h => h]; exact hf
  have e2 := q_rEnds g2b (hr.still s2) hL hne
  have hne2 : ex L ≠ [] := fun e => hne ((ex_nil hL.wf).1 e)
  have hpos : 0 < (ex L).length := List.length_pos_iff.2 hne2
  have e0 : below (ex L) 0 = 0 := List.countP_eq_zero.2 fun n _ => by simp
  have hq := rq_eq hL.low hp 42 0 rfl (by omega)
  rw [e0] at hq
  have hq : rqL (ofL (ex L)) p 42 0 0 = qtL (ofL (ex L)) p 42 0 0 := hq
  have hl := l_rQuantile hL H.n p hp g2b (hr.still s2) g2 (endK Try.prog [.tmp 4]) 42 0 0 rfl (by omega)
  rw [hq] at hl
  apply pure_of _ (d_ref26_Histogram_Quantile _ _ H) rfl
  rotate_left 2
  · simp (disch := first | with_reducible rfl | assumption | omega | rfl | (simp only [go_sem]; first | done | omega)) only [go_sem, ↓reduceIte, reduceCtorEq, Nat.reduceEqDiff, Nat.reduceAdd, Nat.reduceSub, Nat.reduceMul, Nat.reduceDiv, Nat.reduceMod, Nat.reduceLeDiff, Nat.reduceLT, Nat.reduceBEq, Int.reduceEq, Int.reduceBEq, Int.reduceBNe, Int.reduceLT, Int.reduceLE, Int.reduceAdd, Int.reduceSub, Int.reduceNeg, Int.reduceToNat, Int.reducePow, Nat.reducePow, Int.reduceMul, Int.reduceDiv, ↓s_ref26_Histogram_Quantile, ↓enterK_eq e1, enterK_eq e1, ↓bk_push, bk_push, hH1, ↓hst, hst, ↓enterK_eq e2, enterK_eq e2]
    exact hl
  · exact s2
end

end Go.Proofs.Ytplblfcofplcmaa

/-
  The seat's functions as terms over the engine's combinators (a program of ours printed it).
  Conditions: none. By an AI agent.
-/
set_option linter.unusedVariables false
namespace Go.Proofs.Ytplblfcofplcmaa
open Go Eng

/-! ticketline.ticketlinelaw26.StatsPlays -/

noncomputable def s_law_StatsPlays (mg : GT) (mc : CT) (ms : ST) (P : Program) (C : CallF) (L0 : Value → Value → Value → Value → Value → Value → AHeap → K → Res) (a0 : Value) (H : AHeap) (K0 : K) : Res :=
bareK (lenS a0) H fun t10 h1 =>
bareK (xbin P .gtr T.int (.tmp 10) (.const (.int .i64 40)) t10 (.int .i64 40)) h1 fun t11 h2 =>
mc t11 (fun k1 => enterK C F.law_known [] h2 fun t12 h3 =>
k1 .ret [(2, t12)] h3) (fun k1 =>
k1 .normal [(0, a0)] h2) (seqK (fun tT h4 =>
bareK (bldS #[(.int .i64 0), (.int .i64 0), (.int .i64 0), (.int .i64 0), (.int .i64 0), (.int .i64 0), (.int .i64 0), (.int .i64 0), (.int .i64 0), (.int .i64 0), (.int .i64 0), (.int .i64 0), (.int .i64 0), (.int .i64 0), (.int .i64 0), (.int .i64 0), (.int .i64 0), (.int .i64 0), (.int .i64 0), (.int .i64 0), (.int .i64 0), (.int .i64 0), (.int .i64 0), (.int .i64 0), (.int .i64 0), (.int .i64 0), (.int .i64 0), (.int .i64 0), (.int .i64 0), (.int .i64 0), (.int .i64 0), (.int .i64 0), (.int .i64 0), (.int .i64 0), (.int .i64 0), (.int .i64 0), (.int .i64 0), (.int .i64 0), (.int .i64 0), (.int .i64 0), (.int .i64 0), (.int .i64 0), (.int .i64 0), (.int .i64 0), (.int .i64 0), (.int .i64 0)] [(0, 42), (42, 1), (43, 1), (44, 1), (45, 1)] []) h4 fun t13 h5 =>
bothK (newv T.stats_Histogram t13 h5) fun t14 h6 =>
bareK (bldS #[(.int .i64 0), (.int .i64 0), (.int .i64 0), (.int .i64 0), (.int .i64 0), (.int .i64 0), (.int .i64 0), (.int .i64 0), (.int .i64 0), (.int .i64 0), (.int .i64 0), (.int .i64 0), (.int .i64 0), (.int .i64 0), (.int .i64 0), (.int .i64 0), (.int .i64 0), (.int .i64 0), (.int .i64 0), (.int .i64 0), (.int .i64 0), (.int .i64 0), (.int .i64 0), (.int .i64 0), (.int .i64 0), (.int .i64 0), (.int .i64 0), (.int .i64 0), (.int .i64 0), (.int .i64 0), (.int .i64 0), (.int .i64 0), (.int .i64 0), (.int .i64 0), (.int .i64 0), (.int .i64 0), (.int .i64 0), (.int .i64 0), (.int .i64 0), (.int .i64 0), (.int .i64 0), (.int .i64 0), (.int .i64 0), (.int .i64 0), (.int .i64 0), (.int .i64 0)] [(0, 42), (42, 1), (43, 1), (44, 1), (45, 1)] []) h6 fun t15 h7 =>
bothK (newv T.stats_Histogram t15 h7) fun t16 h8 =>
bareK (bldS #[(.slice none 0 0)] [(0, 1)] []) h8 fun t17 h9 =>
bothK (newv T.ref26_Histogram t17 h9) fun t18 h10 =>
bareK (bldS #[(.slice none 0 0)] [(0, 1)] []) h10 fun t19 h11 =>
bothK (newv T.ref26_Histogram t19 h11) fun t20 h12 =>
ms (fun k2 =>
L0 (get tT 0) t14 t16 t18 t20 (.int .i64 0) h12 (blkK [] 0 k2)) (seqK (fun tT_1 h13 =>
enterK C F.law_known [] h13 fun t124 h14 =>
K0 .ret [(2, t124)] h14) K0)) K0)

noncomputable def s_law_StatsPlays_b0 (mg : GT) (mc : CT) (ms : ST) (P : Program) (C : CallF) (L0 : Value → Value → Value → Value → Value → Value → AHeap → K → Res) (v0 : Value) (v3 : Value) (v4 : Value) (v5 : Value) (v6 : Value) (v7 : Value) (H : AHeap) (k : K) : Res :=
bareK (lenS v0) H fun t23 h13 =>
bareK (xbin P .lss T.int (.tmp 21) (.tmp 23) v7 t23) h13 fun t24 h14 =>
mc t24 (fun k3 => k3 .normal [(0, v0), (3, v3), (4, v4), (5, v5), (6, v6), (7, v7)] h14) (fun k3 =>
k3 (.exit 0) [(24, t24), (23, t23), (22, v0), (21, v7), (0, v0), (3, v3), (4, v4), (5, v5), (6, v6), (7, v7)] h14) (seqK (fun tT h15 =>
ms (fun k4 =>
bareK (xbin P .eql T.p_stats_Histogram (.tmp 27) (.const (.pointer none)) (get tT 3) (.pointer none)) h15 fun t28 h16 =>
mg t28 false (fun o5 => o5 (get tT 4) h16) h16 fun t30 h17 =>
mg t28 false (fun o6 => bareK (xbin P .eql T.p_stats_Histogram (.tmp 30) (.const (.pointer none)) t30 (.pointer none)) h17 o6) h17 fun t31 h18 =>
pickK t28 (.bool true) t31 fun t32 =>
mc t32 (fun k7 => k7 .ret [(2, (.bool false))] h18) (fun k7 =>
k7 .normal [(0, (get tT 0)), (3, (get tT 3)), (4, (get tT 4)), (5, (get tT 5)), (6, (get tT 6)), (7, (get tT 7))] h18) (seqK (fun tT_1 h19 =>
bareK (ixS 3 (get tT_1 0) (get tT_1 7)) h19 fun t35 h20 =>
bareK (fad 0 t35) h20 fun t36 h21 =>
bareK (ld1 h21 t36) h21 fun t37 h22 =>
ms (fun k8 =>
bareK (xbin P .eql T.int (.tmp 37) (.const (.int .i64 0)) t37 (.int .i64 0)) h22 fun t44 h23 =>
mc t44 (fun k9 => bareK (ixS 3 (get tT_1 0) (get tT_1 7)) h23 fun t48 h24 =>
bareK (fad 1 t48) h24 fun t49 h25 =>
bareK (ld1 h25 t49) h25 fun t50 h26 =>
bareK (ixS 3 (get tT_1 0) (get tT_1 7)) h26 fun t53 h27 =>
bareK (fad 2 t53) h27 fun t54 h28 =>
bareK (ld1 h28 t54) h28 fun t55 h29 =>
enterK C F.stats_Histogram_Add [(get tT_1 3), t50, t55] h29 fun t56 h30 =>
bareK (ixS 3 (get tT_1 0) (get tT_1 7)) h30 fun t60 h31 =>
bareK (fad 1 t60) h31 fun t61 h32 =>
bareK (ld1 h32 t61) h32 fun t62 h33 =>
bareK (ixS 3 (get tT_1 0) (get tT_1 7)) h33 fun t65 h34 =>
bareK (fad 2 t65) h34 fun t66 h35 =>
bareK (ld1 h35 t66) h35 fun t67 h36 =>
enterK C F.ref26_Histogram_Add [(get tT_1 5), t62, t67] h36 fun t68 h37 =>
bareK (xbin P .neq T.api_Errno (.tmp 56) (.tmp 68) t56 t68) h37 fun t69 h38 =>
checkK (okV (some true) none h29 h30 h30 h30 && (okV (some true) none h29 h30 h30 h30 && (okV (some true) none h29 h30 h30 h30 && (okV (some true) none h29 h30 h30 h31 && (okV (some true) none h29 h30 h31 h32 && (okV (some true) (blockOf t61) h29 h30 h32 h33 && (okV (some true) none h29 h30 h33 h33 && (okV (some true) none h29 h30 h33 h33 && (okV (some true) none h29 h30 h33 h34 && (okV (some true) none h29 h30 h34 h35 && (okV (some true) (blockOf t66) h29 h30 h35 h36 && true))))))))))) <|
mc t69 (fun k10 => k10 .ret [(2, (.bool false))] h38) (fun k10 =>
k10 .normal [(0, (get tT_1 0)), (3, (get tT_1 3)), (4, (get tT_1 4)), (5, (get tT_1 5)), (6, (get tT_1 6)), (7, (get tT_1 7))] h38) (afterK [0, 3, 4, 5, 6, 7] k9)) (fun k9 =>
bareK (xbin P .eql T.int (.tmp 37) (.const (.int .i64 1)) t37 (.int .i64 1)) h23 fun t71 h39 =>
mc t71 (fun k11 => bareK (xnilCheck (get tT_1 5)) h39 fun t73 h40 =>
bareK (fad 0 t73) h40 fun t74 h41 =>
bareK (ld1 h41 t74) h41 fun t75 h42 =>
bareK (lenS t75) h42 fun t76 h43 =>
bareK (xnilCheck (get tT_1 6)) h43 fun t78 h44 =>
bareK (fad 0 t78) h44 fun t79 h45 =>
bareK (ld1 h45 t79) h45 fun t80 h46 =>
bareK (lenS t80) h46 fun t81 h47 =>
bareK (xbin P .add T.int (.tmp 76) (.tmp 81) t76 t81) h47 fun t82 h48 =>
bareK (xbin P .gtr T.int (.tmp 82) (.const (.int .i64 400)) t82 (.int .i64 400)) h48 fun t83 h49 =>
checkK true <|
mc t83 (fun k12 => enterK C F.law_known [] h49 fun t84 h50 =>
k12 .ret [(2, t84)] h50) (fun k12 =>
k12 .normal [(0, (get tT_1 0)), (3, (get tT_1 3)), (4, (get tT_1 4)), (5, (get tT_1 5)), (6, (get tT_1 6)), (7, (get tT_1 7))] h49) (seqK (fun tT_2 h51 =>
enterK C F.stats_Histogram_Merge [(get tT_2 3), (get tT_2 4)] h51 fun t87 h52 =>
enterK C F.ref26_Histogram_Merge [(get tT_2 5), (get tT_2 6)] h52 fun t90 h53 =>
bareK (xbin P .neq T.api_Errno (.tmp 87) (.tmp 90) t87 t90) h53 fun t91 h54 =>
mc t91 (fun k13 => k13 .ret [(2, (.bool false))] h54) (fun k13 =>
k13 .normal [(0, (get tT_2 0)), (3, (get tT_2 3)), (4, (get tT_2 4)), (5, (get tT_2 5)), (6, (get tT_2 6)), (7, (get tT_2 7))] h54) (afterK [0, 3, 4, 5, 6, 7] k11)) (afterK [0, 3, 4, 5, 6, 7] k11))) (fun k11 =>
bareK (xbin P .eql T.int (.tmp 37) (.const (.int .i64 2)) t37 (.int .i64 2)) h39 fun t93 h55 =>
mc t93 (fun k14 => bareK (xnilCheck (get tT_1 5)) h55 fun t95 h56 =>
bareK (fad 0 t95) h56 fun t96 h57 =>
bareK (ld1 h57 t96) h57 fun t97 h58 =>
bareK (lenS t97) h58 fun t98 h59 =>
bareK (xbin P .gtr T.int (.tmp 98) (.const (.int .i64 200)) t98 (.int .i64 200)) h59 fun t99 h60 =>
mc t99 (fun k15 => enterK C F.law_known [] h60 fun t100 h61 =>
k15 .ret [(2, t100)] h61) (fun k15 =>
k15 .normal [(0, (get tT_1 0)), (3, (get tT_1 3)), (4, (get tT_1 4)), (5, (get tT_1 5)), (6, (get tT_1 6)), (7, (get tT_1 7))] h60) (seqK (fun tT_3 h62 =>
enterK C F.stats_Histogram_Merge [(get tT_3 3), (get tT_3 3)] h62 fun t103 h63 =>
enterK C F.ref26_Histogram_Merge [(get tT_3 5), (get tT_3 5)] h63 fun t106 h64 =>
bareK (xbin P .neq T.api_Errno (.tmp 103) (.tmp 106) t103 t106) h64 fun t107 h65 =>
mc t107 (fun k16 => k16 .ret [(2, (.bool false))] h65) (fun k16 =>
k16 .normal [(0, (get tT_3 0)), (3, (get tT_3 3)), (4, (get tT_3 4)), (5, (get tT_3 5)), (6, (get tT_3 6)), (7, (get tT_3 7))] h65) (afterK [0, 3, 4, 5, 6, 7] k14)) (afterK [0, 3, 4, 5, 6, 7] k14))) (fun k14 =>
bareK (xbin P .eql T.int (.tmp 37) (.const (.int .i64 3)) t37 (.int .i64 3)) h55 fun t109 h66 =>
mc t109 (fun k17 => k17 .normal [(0, (get tT_1 0)), (3, (get tT_1 4)), (4, (get tT_1 3)), (5, (get tT_1 6)), (6, (get tT_1 5)), (7, (get tT_1 7))] h66) (fun k17 =>
enterK C F.stats_Histogram_Copy [(get tT_1 3)] h66 fun t39 h67 =>
enterK C F.stats_Histogram_Add [(get tT_1 3), (.int .i64 7), (.int .i64 1)] h67 fun t41 h68 =>
k17 .normal [(0, (get tT_1 0)), (3, t39), (4, (get tT_1 4)), (5, (get tT_1 5)), (6, (get tT_1 6)), (7, (get tT_1 7))] h68) (afterK [0, 3, 4, 5, 6, 7] k14)) (afterK [0, 3, 4, 5, 6, 7] k11)) (afterK [0, 3, 4, 5, 6, 7] k9)) (blkK [0, 3, 4, 5, 6, 7] 2 k8)) (seqK (fun tT_4 h69 =>
enterK C F.law_alike [(get tT_4 3), (get tT_4 5)] h69 fun t116 h70 =>
bareK (xun P .not t116) h70 fun t117 h71 =>
mg t117 false (fun o18 => o18 (get tT_4 4) h71) h71 fun t119 h72 =>
mg t117 false (fun o19 => o19 (get tT_4 6) h72) h72 fun t120 h73 =>
mg t117 false (fun o20 => enterK C F.law_alike [t119, t120] h73 o20) h73 fun t121 h74 =>
mg t117 false (fun o21 => bareK (xun P .not t121) h74 o21) h74 fun t122 h75 =>
pickK t117 (.bool true) t122 fun t123 =>
mc t123 (fun k22 => k22 .ret [(2, (.bool false))] h75) (fun k22 =>
k22 .normal [(0, (get tT_4 0)), (3, (get tT_4 3)), (4, (get tT_4 4)), (5, (get tT_4 5)), (6, (get tT_4 6)), (7, (get tT_4 7))] h75) (blkK [0, 3, 4, 5, 6, 7] 1 k4)) (blkK [0, 3, 4, 5, 6, 7] 1 k4))) (blkK [0, 3, 4, 5, 6, 7] 1 k4))) (seqK (fun tT_5 h76 =>
bareK (xbin P .add T.int (.tmp 25) (.const (.int .i64 1)) (get tT_5 7) (.int .i64 1)) h76 fun t26 h77 =>
k .normal [(0, (get tT_5 0)), (3, (get tT_5 3)), (4, (get tT_5 4)), (5, (get tT_5 5)), (6, (get tT_5 6)), (7, t26)] h77) (afterK [0, 3, 4, 5, 6, 7] k))) (afterK [0, 3, 4, 5, 6, 7] k))

theorem s_law_StatsPlays_eq (M : CombL) (C : CallF) (LP : LoopH) (a0 : Value) (H : AHeap) : dBodyL M Try.prog hints C LP F.law_StatsPlays [a0] H = s_law_StatsPlays M.b.g M.c M.s Try.prog C (fun v0 v3 v4 v5 v6 v7 H k => loopL M Try.prog hints C LP F.law_StatsPlays 0 [(0, v0), (3, v3), (4, v4), (5, v5), (6, v6), (7, v7)] H k) a0 H (endK Try.prog [.tmp 2]) := by kernel_rfl

theorem s_law_StatsPlays_b0_eq (M : CombL) (C : CallF) (LP : LoopH) (v0 : Value) (v3 : Value) (v4 : Value) (v5 : Value) (v6 : Value) (v7 : Value) (H : AHeap) (k : K) : bodyL M Try.prog hints C LP F.law_StatsPlays 0 [(0, v0), (3, v3), (4, v4), (5, v5), (6, v6), (7, v7)] H (afterK [0, 3, 4, 5, 6, 7] k) = s_law_StatsPlays_b0 M.b.g M.c M.s Try.prog C (fun v0 v3 v4 v5 v6 v7 H k => loopL M Try.prog hints C LP F.law_StatsPlays 0 [(0, v0), (3, v3), (4, v4), (5, v5), (6, v6), (7, v7)] H k) v0 v3 v4 v5 v6 v7 H k := by kernel_rfl

end Go.Proofs.Ytplblfcofplcmaa

/-
  The equations of the seat's functions over calls in the limit (a program of ours printed it).
  Conditions: none. By an AI agent.
-/
set_option linter.unusedVariables false
namespace Go.Proofs.Ytplblfcofplcmaa
open Go Eng

theorem u_ref26_Histogram : Try.prog.underlying T.ref26_Histogram = Try.prog.underlying 72 := rfl

noncomputable def l_law_StatsPlays_0 (v0 : Value) (v3 : Value) (v4 : Value) (v5 : Value) (v6 : Value) (v7 : Value) (H : AHeap) (k : K) : Res := loopL stdL Try.prog hints CC limLP F.law_StatsPlays 0 [(0, v0), (3, v3), (4, v4), (5, v5), (6, v6), (7, v7)] H k
theorem r_law_StatsPlays_0 (v0 : Value) (v3 : Value) (v4 : Value) (v5 : Value) (v6 : Value) (v7 : Value) (H : AHeap) (k : K) : l_law_StatsPlays_0 v0 v3 v4 v5 v6 v7 H k = s_law_StatsPlays_b0 guardK condL shareL Try.prog CC l_law_StatsPlays_0 v0 v3 v4 v5 v6 v7 H (seqK (fun T H => l_law_StatsPlays_0 (get T 0) (get T 3) (get T 4) (get T 5) (get T 6) (get T 7) H k) k) := ((loopL_next (by kernel_rfl) rfl H k).trans (s_law_StatsPlays_b0_eq stdL CC limLP v0 v3 v4 v5 v6 v7 H _)).trans (by kernel_rfl)
theorem d_law_StatsPlays (a0 : Value) (H : AHeap) {r : Value × AHeap} (h : s_law_StatsPlays guardK condL shareL Try.prog CC l_law_StatsPlays_0 a0 H (endK Try.prog [.tmp 2]) = some r) : CC F.law_StatsPlays [a0] H = some (tidy H r) := D_body (by kernel_rfl) ((s_law_StatsPlays_eq stdL CC limLP a0 H).trans (Eq.trans (show s_law_StatsPlays stdL.b.g stdL.c stdL.s Try.prog CC (fun v0 v3 v4 v5 v6 v7 H k => loopL stdL Try.prog hints CC limLP F.law_StatsPlays 0 [(0, v0), (3, v3), (4, v4), (5, v5), (6, v6), (7, v7)] H k) a0 H (endK Try.prog [.tmp 2]) = s_law_StatsPlays guardK condL shareL Try.prog CC l_law_StatsPlays_0 a0 H (endK Try.prog [.tmp 2]) by kernel_rfl) h))

end Go.Proofs.Ytplblfcofplcmaa

/-
  Chapter 26: the law StatsPlays runs to true.
  Conditions: none. By an AI agent.
-/
set_option maxRecDepth 10000
set_option linter.unusedSimpArgs false
set_option linter.unusedVariables false
namespace Go.Proofs.Ytplblfcofplcmaa
open Go Eng
attribute [local congr] bareK_congr bothK_congr

abbrev pt (b : Nat) : Value := .pointer (some ⟨b, 0, none⟩)
def EI : Enc Int := ⟨1, fun a => [.int .i64 a], fun _ => rfl, by decide, fun _ => rfl⟩

theorem sameB_refl (x : Hi) : sameB x x = true := by unfold sameB; simp
theorem q_ends (x : Hi) (b : Nat) (H : AHeap) (hf : H.f b = HB x) (hs : 0 ≤ x.s ∧ x.s ≤ 4611686018427387904) (hc : empB x = true ∨ 0 < x.c) :
    CC F.law_ends [pt b, .int .i64 (if empB x = true then 0 else x.l), .int .i64 (if empB x = true then 0 else x.h), .int .i64 (if empB x = true then 0 else x.s / x.c), .int .i64 (if empB x = true then 9 else 0)] H = some (.bool true, H) := by
  have e1 := q_Min x b H hf
  have e2 := q_Max x b H hf
  have e3 := q_Mean x b H hf hs hc
  generalize (if empB x = true then 0 else x.l) = X at *
  generalize (if empB x = true then 0 else x.h) = Y at *
  generalize (if empB x = true then 0 else x.s / x.c) = Z at *
  generalize (if empB x = true then (9 : Int) else 0) = W at *
  apply pure_of _ (d_law_ends _ _ _ _ _ H) rfl
  rotate_left 2
  · simp (disch := first | with_reducible rfl | assumption | omega | rfl | (simp only [go_sem]; first | done | omega)) only [go_sem, ↓reduceIte, reduceCtorEq, Nat.reduceEqDiff, Nat.reduceAdd, Nat.reduceSub, Nat.reduceMul, Nat.reduceDiv, Nat.reduceMod, Nat.reduceLeDiff, Nat.reduceLT, Nat.reduceBEq, Int.reduceEq, Int.reduceBEq, Int.reduceBNe, Int.reduceLT, Int.reduceLE, Int.reduceAdd, Int.reduceSub, Int.reduceNeg, Int.reduceToNat, Int.reducePow, Nat.reducePow, Int.reduceMul, Int.reduceDiv, ↓s_law_ends, ↓enterK_eq e1, enterK_eq e1, ↓enterK_eq e2, enterK_eq e2, ↓enterK_eq e3, enterK_eq e3, decide_true]
    rfl
  · (repeat (first | exact Fr.refl _ | refine Fr.push ?_ _ | refine Fr.set ?_ _ _ (by intro h; first | omega | (simp only [go_sem] at h; omega))))
theorem q_lq {b : Nat} {p w e : Int} {H : AHeap} (h : CC F.stats_Histogram_Quantile [pt b, .int .i64 p] H = some (.tuple ⟨[.int .i64 w, .int .i64 e]⟩, H)) : CC F.law_quantile [pt b, .int .i64 p, .int .i64 w, .int .i64 e] H = some (.bool true, H) := by
  apply pure_of _ (d_law_quantile _ _ _ _ H) rfl
  rotate_left 2
  · simp (disch := first | with_reducible rfl | assumption | omega | rfl | (simp only [go_sem]; first | done | omega)) only [go_sem, ↓reduceIte, reduceCtorEq, Nat.reduceEqDiff, Nat.reduceAdd, Nat.reduceSub, Nat.reduceMul, Nat.reduceDiv, Nat.reduceMod, Nat.reduceLeDiff, Nat.reduceLT, Nat.reduceBEq, Int.reduceEq, Int.reduceBEq, Int.reduceBNe, Int.reduceLT, Int.reduceLE, Int.reduceAdd, Int.reduceSub, Int.reduceNeg, Int.reduceToNat, Int.reducePow, Nat.reducePow, Int.reduceMul, Int.reduceDiv, ↓s_law_quantile, ↓enterK_eq h, enterK_eq h, decide_true]
    rfl
  · (repeat (first | exact Fr.refl _ | refine Fr.push ?_ _ | refine Fr.set ?_ _ _ (by intro h; first | omega | (simp only [go_sem] at h; omega))))

def parts : List Int := [0, 1, 10, 250, 500, 501, 900, 990, 999, 1000]
theorem parts_ok : ∀ p ∈ parts, 0 ≤ p ∧ p ≤ 1000 := by decide

section
variable {L : List Co} {v w : Value} {h x : Nat} {H : AHeap}

theorem l_alike (hL : Okc L) (hne : L ≠ []) (hh : H.f h = HB (ofL (ex L))) (hf : H.f x = .cells [v] T.ref26_Histogram true) (hxn : x < H.n) (hr : Rd ECo H v L) (hv : ∀ c, blockOf v = some c → c < H.n) (hw : Rd EI H w parts) (K : K) : ∀ (d i : Nat), i + d = 10 →
    l_law_alike_0 (pt h) (pt x) w (.int .i64 10) (.int .i64 (i : Int)) H (blkK [0] 0 K) = K .normal [(0, pt h)] H
  | 0, i, hi => by
    have hlt : ¬ (i : Int) < 10 := by omega
    rw [r_law_alike_0]
    simp (disch := first | with_reducible rfl | assumption | omega | rfl | (simp only [go_sem]; first | done | omega)) only [go_sem, ↓reduceIte, reduceCtorEq, Nat.reduceEqDiff, Nat.reduceAdd, Nat.reduceSub, Nat.reduceMul, Nat.reduceDiv, Nat.reduceMod, Nat.reduceLeDiff, Nat.reduceLT, Nat.reduceBEq, Int.reduceEq, Int.reduceBEq, Int.reduceBNe, Int.reduceLT, Int.reduceLE, Int.reduceAdd, Int.reduceSub, Int.reduceNeg, Int.reduceToNat, Int.reducePow, Nat.reducePow, Int.reduceMul, Int.reduceDiv, ↓s_law_alike_b0, hlt]
  | d + 1, i, hi => by
    have hlt : (i : Int) < 10 := by omega
    have hil : i < parts.length := by show i < 10; omega
    obtain ⟨bb, o, ix, hb, hc, _⟩ := hw.ix (q := .i64) hil
    have ix : ixS 1 w (.int .i64 i) = some (.pointer (some ⟨bb, o, none⟩)) := ix
    have hc : cellB (H.f bb) o = some (.int .i64 parts[i]) := cutB_cell hc (i := 0) (by decide)
    have hp := parts_ok parts[i] (List.getElem_mem hil)
    have hE : empB (ofL (ex L)) = false := by
      rw [emp_ofL hL.low]
      have : ex L ≠ [] := fun e => hne ((ex_nil hL.wf).1 e)
      cases hx : ex L with
      | nil => exact absurd hx this
      | cons _ _ => rfl
    have e1 := q_rQuantile hL hne parts[i] hp hf hxn hr hv
    have e2 := q_Quantile (ofL (ex L)) h parts[i] H hh hL.oki hp
    rw [if_neg (by rw [hE]; decide), if_neg (by rw [hE]; decide)] at e2
    have e3 := q_lq e2
    have ih := l_alike hL hne hh hf hxn hr hv hw K d (i + 1) (by omega)
    rw [Int.natCast_add] at ih
    rw [r_law_alike_0]
    simp (disch := first | with_reducible rfl | assumption | omega | rfl | (simp only [go_sem]; first | done | omega)) only [go_sem, ↓reduceIte, reduceCtorEq, Nat.reduceEqDiff, Nat.reduceAdd, Nat.reduceSub, Nat.reduceMul, Nat.reduceDiv, Nat.reduceMod, Nat.reduceLeDiff, Nat.reduceLT, Nat.reduceBEq, Int.reduceEq, Int.reduceBEq, Int.reduceBNe, Int.reduceLT, Int.reduceLE, Int.reduceAdd, Int.reduceSub, Int.reduceNeg, Int.reduceToNat, Int.reducePow, Nat.reducePow, Int.reduceMul, Int.reduceDiv, ↓s_law_alike_b0, hlt, ix, hc, ↓enterK_eq e1, enterK_eq e1, ↓enterK_eq e3, enterK_eq e3]
    exact ih

theorem q_alike (hL : Okc L) (hh : H.f h = HB (ofL (ex L))) (hhn : h < H.n) (hf : H.f x = .cells [v] T.ref26_Histogram true) (hxn : x < H.n) (hr : Rd ECo H v L) (hv : ∀ c, blockOf v = some c → c < H.n) :
    CC F.law_alike [pt h, pt x] H = some (.bool true, H) := by
  have ec : (ofL (ex L)).c = (cntR L : Int) := by show ((ex L).length : Int) = _; rw [ex_len]
  have es : (ofL (ex L)).s = (sumR L : Int) := by show ((ex L).sum : Int) = _; rw [ex_sum]
  have e1 := q_Count (ofL (ex L)) h H hh
  have e2 := q_Sum (ofL (ex L)) h H hh
  have e3 := q_Buckets (ofL (ex L)) h H hh hhn
  have r1 := q_rCount hf hr hL
  have r2 := q_rSum hf hr hL
  have r3 := q_rBuckets hL hf hxn hr hv
  rw [ec] at e1
  rw [es] at e2
  have hbn : ∀ ox oy, xbin Try.prog .neq T.n42_int ox oy (.agg ⟨bkv (ofL (ex L))⟩) (.agg ⟨bkv (ofL (ex L))⟩) = some (.bool false) := fun ox oy => by rw [bk_ne, sameB_refl]; rfl
  have b1 := q_lq (q_Quantile_bad h 1001 H (.inr (by decide)))
  have b2 := q_lq (q_Quantile_bad h (-1) H (.inl (by decide)))
  have hlen := hr.lenS
  have hen := q_ends (ofL (ex L)) h H hh hL.oki.s
  by_cases hne : L = []
  · have hE : empB (ofL (ex L)) = true := by subst hne; exact emp_ofL (fun n h => by simp [ex] at h)
    have h4 := hen (.inl hE)
    rw [if_pos hE, if_pos hE, if_pos hE, if_pos hE] at h4
    have q1 := q_Quantile (ofL (ex L)) h 500 H hh hL.oki (by decide)
    rw [if_pos hE, if_pos hE] at q1
    have q2 := q_lq q1
    have hl0 : (L.length : Int) = 0 := by subst hne; rfl
    rw [hl0] at hlen
    apply pure_of _ (d_law_alike _ _ H) rfl
    rotate_left 2
    · simp (disch := first | with_reducible rfl | assumption | omega | rfl | (simp only [go_sem]; first | done | omega)) only [go_sem, ↓reduceIte, reduceCtorEq, Nat.reduceEqDiff, Nat.reduceAdd, Nat.reduceSub, Nat.reduceMul, Nat.reduceDiv, Nat.reduceMod, Nat.reduceLeDiff, Nat.reduceLT, Nat.reduceBEq, Int.reduceEq, Int.reduceBEq, Int.reduceBNe, Int.reduceLT, Int.reduceLE, Int.reduceAdd, Int.reduceSub, Int.reduceNeg, Int.reduceToNat, Int.reducePow, Nat.reducePow, Int.reduceMul, Int.reduceDiv, ↓s_law_alike, ↓enterK_eq e1, enterK_eq e1, ↓enterK_eq e2, enterK_eq e2, ↓enterK_eq e3, enterK_eq e3, ↓enterK_eq r1, enterK_eq r1, ↓enterK_eq r2, enterK_eq r2, ↓enterK_eq r3, enterK_eq r3, hbn, hf, hlen, ↓enterK_eq h4, enterK_eq h4, ↓enterK_eq q2, enterK_eq q2, ↓enterK_eq b1, enterK_eq b1, decide_true]
      rfl
    · (repeat (first | exact Fr.refl _ | refine Fr.push ?_ _ | refine Fr.set ?_ _ _ (by intro h; first | omega | (simp only [go_sem] at h; omega))))
  · have hE : empB (ofL (ex L)) = false := by
      rw [emp_ofL hL.low]
      have : ex L ≠ [] := fun e => hne ((ex_nil hL.wf).1 e)
      cases hx : ex L with
      | nil => exact absurd hx this
      | cons _ _ => rfl
    have hpos : 0 < cntR L := by
      rw [← ex_len]
      exact List.length_pos_iff.2 fun e => hne ((ex_nil hL.wf).1 e)
    have h4 := hen (.inr (by rw [ec]; omega))
    rw [if_neg (by rw [hE]; decide), if_neg (by rw [hE]; decide), if_neg (by rw [hE]; decide), if_neg (by rw [hE]; decide), ec, es] at h4
    have r4 := q_rEnds hf hr hL hne
    have hl0 : ¬ (L.length : Int) = 0 := by
      have := List.length_pos_iff.2 hne
      omega
    have hs := hL.s
    have hq : ∀ ox oy, xbin Try.prog .quo T.int ox oy (.int .i64 (sumR L : Int)) (.int .i64 (cntR L : Int)) = some (.int .i64 ((sumR L : Int) / (cntR L : Int))) := fun ox oy => quoI (by omega) (by omega) (by omega)
    have h4 : CC F.law_ends [pt h, .int .i64 (mnL (ex L) : Int), .int .i64 (mxL (ex L) : Int), .int .i64 ((sumR L : Int) / (cntR L : Int)), .int .i64 0] H = some (.bool true, H) := h4
    obtain ⟨H1, hH1⟩ : ∃ H1, H.push (.cells (EI.cells parts) T.int true) = H1 := ⟨_, rfl⟩
    have s1 : Still H H1 := by rw [← hH1]; exact (Fr.refl H).push _
    have n1 : H1.n = H.n + 1 := by rw [← hH1]; rfl
    have g1 : H1.f H.n = .cells (EI.cells parts) T.int true := by rw [← hH1]; exact push_f_eq rfl
    have hw : Rd EI H1 (.slice (some ⟨H.n, 0, none⟩) 10 (2 * 10)) parts := .inr (.inr ⟨H.n, 0, _, rfl, by decide, by omega, by rw [g1]; rfl⟩)
    have hla := l_alike hL hne (by rw [s1.f hhn fun h => h]; exact hh) (by rw [s1.f hxn fun h => h]; exact hf) (by omega) (hr.still s1) (fun c hc => by have := hv c hc; omega) hw
    have hla : ∀ K, l_law_alike_0 (pt h) (pt x) (.slice (some ⟨H.n, 0, none⟩) 10 20) (.int .i64 10) (.int .i64 0) H1 (blkK [0] 0 K) = K .normal [(0, pt h)] H1 := fun K => hla K 10 0 rfl
    have b1 := q_lq (q_Quantile_bad h 1001 H1 (.inr (by decide)))
    have b2 := q_lq (q_Quantile_bad h (-1) H1 (.inl (by decide)))
    have hH1' : H.push (.cells [.int .i64 0, .int .i64 1, .int .i64 10, .int .i64 250, .int .i64 500, .int .i64 501, .int .i64 900, .int .i64 990, .int .i64 999, .int .i64 1000] T.int true) = H1 := hH1
    apply pure_of _ (d_law_alike _ _ H) rfl
    rotate_left 2
    · simp (disch := first | with_reducible rfl | assumption | omega | rfl | (simp only [go_sem]; first | done | omega)) only [go_sem, ↓reduceIte, reduceCtorEq, Nat.reduceEqDiff, Nat.reduceAdd, Nat.reduceSub, Nat.reduceMul, Nat.reduceDiv, Nat.reduceMod, Nat.reduceLeDiff, Nat.reduceLT, Nat.reduceBEq, Int.reduceEq, Int.reduceBEq, Int.reduceBNe, Int.reduceLT, Int.reduceLE, Int.reduceAdd, Int.reduceSub, Int.reduceNeg, Int.reduceToNat, Int.reducePow, Nat.reducePow, Int.reduceMul, Int.reduceDiv, ↓s_law_alike, ↓enterK_eq e1, enterK_eq e1, ↓enterK_eq e2, enterK_eq e2, ↓enterK_eq e3, enterK_eq e3, ↓enterK_eq r1, enterK_eq r1, ↓enterK_eq r2, enterK_eq r2, ↓enterK_eq r3, enterK_eq r3, hbn, hf, hlen, hl0, ↓enterK_eq r4, enterK_eq r4, ↓hq, hq, ↓enterK_eq h4, enterK_eq h4, hH1', hla, ↓enterK_eq b1, enterK_eq b1, ↓enterK_eq b2, enterK_eq b2, decide_true]
      rfl
    · exact s1
end

end Go.Proofs.Ytplblfcofplcmaa
