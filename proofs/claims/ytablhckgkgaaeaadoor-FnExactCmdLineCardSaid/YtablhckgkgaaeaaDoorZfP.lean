/- Plain law: what the two sides of FnExactCmdLine compute is alike. Conditions: numbers of 64 bits. -/
import Derived.Test.YtablhckgkgaaeaaDoorZfG
set_option maxRecDepth 100000
namespace Go.E
open Go

theorem p30 (a : Int) : r37_0 a = r30_0 a := by
  unfold r37_0 r30_0 v30_0 r36_0 v36_0
  rw [Bool.eq_iff_iff]
  simp [Bool.cond_eq_ite]
  omega
theorem p31 (a b c d e f : Int) : (!(r36_0 b (-1) 1000000)) = v19_0 a b c d e f := by
  unfold v19_0 r31_0 r29_0 v29_0 r36_0 v36_0
  rw [Bool.eq_iff_iff]
  simp [Bool.cond_eq_ite]
  omega
theorem fault (a b c d e f : Int) : r22_0 a b c d e f = r19_0 a b c d e f := by
  unfold r22_0 r19_0 v22_7 v19_8 v22_14 v19_15 v22_5 v22_6 v19_6 v19_7 v22_12 v22_13 v19_13 v19_14 v22_3 v22_4 v19_4 v19_5 v22_10 v22_11 v19_11 v19_12 v22_1 v22_2 v19_2 v19_3 v22_8 v22_9 v19_9 v19_10 v22_0 v19_1
  rw [p30, p31 a b c d e f]
  rfl

theorem byte_digit (n : Int) (h0 : 0 ≤ n) (h1 : n < 10) : strOf [IntKind.wrap .u8 (IntKind.wrap .i64 (48 + n))] = ⟨#[UInt8.ofNat (48 + n.toNat)]⟩ := by
  have e : IntKind.wrap .u8 (IntKind.wrap .i64 (48 + n)) = 48 + n := by
    rw [wrap64_id (by omega) (by omega)]
    simp [IntKind.wrap, IntKind.bits, IntKind.signed]
    omega
  rw [e]
  have e2 : (48 + n).toNat = 48 + n.toNat := by omega
  show ByteArray.push ByteArray.empty (UInt8.ofNat (48 + n).toNat) = _
  rw [e2]
  rfl
theorem mk_append (l1 l2 : List UInt8) : (⟨l1.toArray⟩ : ByteArray) ++ ⟨l2.toArray⟩ = ⟨(l1 ++ l2).toArray⟩ := by
  apply ByteArray.ext
  simp
theorem digF_itoa : ∀ (k : Nat) (n : Int), 0 ≤ n → n < 10 ^ (k + 1) → n ≤ 9223372036854775807 → digF (k + 1) n = ⟨(Lib.decDigits n.toNat).toArray⟩
  | 0, n, h0, h1, h2 => by
    have h3 : n < 10 := by simpa using h1
    simp only [digF, e20, h3, decide_true, cond_true]
    rw [byte_digit n h0 h3, Lib.decDigits_one (by omega)]
  | k + 1, n, h0, h1, h2 => by
    by_cases h3 : n < 10
    · simp only [digF, e20, h3, decide_true, cond_true]
      rw [byte_digit n h0 h3, Lib.decDigits_one (by omega)]
    · rw [digF]
      simp only [e20, h3, decide_false, cond_false]
      have e : Int.tdiv n 10 = n / 10 := Int.tdiv_eq_ediv_of_nonneg (by omega)
      have e2 : Int.tmod n 10 = n % 10 := Int.tmod_eq_emod_of_nonneg (by omega)
      rw [e, e2, wrap64_id (x := n / 10) (by omega) (by omega)]
      have : (10 : Int) ^ (k + 1 + 1) = 10 ^ (k + 1) * 10 := Int.pow_succ ..
      rw [this] at h1
      rw [digF_itoa k (n / 10) (by omega) (Int.ediv_lt_of_lt_mul (by omega) h1) (by omega), byte_digit _ (by omega) (by omega)]
      rw [show (#[UInt8.ofNat (48 + (n % 10).toNat)] : Array UInt8) = [UInt8.ofNat (48 + (n % 10).toNat)].toArray from rfl, mk_append]
      have h4 : ¬ n.toNat < 10 := by omega
      conv => rhs; rw [Lib.decDigits, dif_neg h4]
      have e3 : (n / 10).toNat = n.toNat / 10 := by omega
      have e4 : (n % 10).toNat = n.toNat % 10 := by omega
      rw [e3, e4]
theorem dig_itoa (n : Int) (h0 : 0 ≤ n) (h1 : n ≤ 9223372036854775807) : dig n = itoaB n := by
  unfold dig
  rw [digF_itoa 18 n h0 (by have : (10 : Int) ^ (18 + 1) = 10000000000000000000 := by decide
                            omega) h1]
  obtain ⟨u, rfl⟩ : ∃ u : Nat, n = (u : Int) := ⟨n.toNat, by omega⟩
  unfold itoaB
  rw [Lib.itoa_nonneg]
  rfl
theorem fault_zero (a b c d e f : Int) (h : r19_0 a b c d e f = 0) : 1 ≤ a ∧ a ≤ 9 ∧ -1 ≤ b ∧ 0 ≤ c ∧ 0 ≤ d ∧ 0 ≤ e ∧ 0 ≤ f := by
  unfold r19_0 at h
  have h1 : r29_0 a 1 9 = true := by
    cases hx : r29_0 a 1 9
    · rw [hx] at h; simp at h
    · rfl
  have h2 : v19_8 a b c d e f = false := by
    rw [h1] at h
    cases hx : v19_8 a b c d e f
    · rfl
    · rw [hx] at h; simp at h
  have h3 : v19_15 a b c d e f = false := by
    rw [h1, h2] at h
    cases hx : v19_15 a b c d e f
    · rfl
    · rw [hx] at h; simp at h
  simp [v19_8, v19_6, v19_7, v19_4, v19_5, v19_2, v19_3, v19_0, v19_1, Bool.cond_eq_ite] at h2
  simp [v19_15, v19_13, v19_14, v19_11, v19_12, v19_9, v19_10, Bool.cond_eq_ite] at h3
  simp [r29_0, v29_0, Bool.cond_eq_ite] at h1
  obtain ⟨⟨⟨⟨p1, p2⟩, p3⟩, p4⟩, p5⟩ := h2
  obtain ⟨⟨⟨q2, q3⟩, q4⟩, q5⟩ := h3
  refine ⟨by omega, by omega, ?_, ?_, ?_, ?_, ?_⟩
  · simp [r31_0, r29_0, v29_0, Bool.cond_eq_ite] at p1
    omega
  · cases hx : r30_0 a
    · have := q2 hx; omega
    · have := p2 hx
      simp [r32_0, r29_0, v29_0, Bool.cond_eq_ite] at this
      omega
  · cases hx : r30_1 a
    · have := q3 hx; omega
    · have := p3 hx
      simp [r33_0, r29_0, v29_0, Bool.cond_eq_ite] at this
      omega
  · cases hx : r30_2 a
    · have := q4 hx; omega
    · have := p4 hx
      simp [r34_0, r45_0, r29_0, v29_0, Bool.cond_eq_ite] at this
      split at this
      · first | omega | (simp at this; omega)
      · split at this
        · first | omega | (simp at this; omega)
        · split at this
          · first | omega | (simp at this; omega)
          · split at this <;> first | omega | (simp at this; omega)
  · cases hx : r30_3 a
    · have := q5 hx; omega
    · have := p5 hx
      simp [r35_0, v35_0, Bool.cond_eq_ite] at this
      omega

theorem text21 (b : Int) (h0 : -1 ≤ b) (h1 : b ≤ 9223372036854775807) : r21_0 b = itoaB b := by
  unfold r21_0
  by_cases h : b < 0
  · have : b = -1 := by omega
    subst this
    have e : itoaB (-1) = ByteArray.mk #[45, 49] := by
      unfold itoaB
      rw [show (-1 : Int) = -((1 : Nat) : Int) from rfl, Lib.itoa_neg 1 (by omega), Lib.decDigits_one (by omega)]
      rfl
    rw [e]
    rfl
  · simp only [h, decide_false, cond_false]
    exact dig_itoa b (by omega) h1
theorem spec_str (a b c d e f : Int) (s : ByteArray) : l10_0 a b c d e f (((4 : Int) - 0).toNat + 1) s 0 = (0, ((((((((s ++ ByteArray.mk #[32]) ++ dig c) ++ ByteArray.mk #[32]) ++ dig d) ++ ByteArray.mk #[32]) ++ dig e) ++ ByteArray.mk #[32]) ++ dig f)) := by
  have e : ((4 : Int) - 0).toNat + 1 = 5 := rfl
  rw [e]
  simp [l10_0, wrap64]
theorem impl_str (a b c d e f : Int) : r23_0 (ByteArray.mk #[32]) [a, b, c, d, e, f] = ((((((((((((ByteArray.mk #[] ++ itoaB a) ++ ByteArray.mk #[32]) ++ itoaB b) ++ ByteArray.mk #[32]) ++ itoaB c) ++ ByteArray.mk #[32]) ++ itoaB d) ++ ByteArray.mk #[32]) ++ itoaB e) ++ ByteArray.mk #[32]) ++ itoaB f)) := by
  unfold r23_0 R23
  have e : (((([a, b, c, d, e, f] : List Int).length : Int) - 0).toNat + 1) = 7 := rfl
  rw [e]
  simp [l23_0, wrap64, r42_0]

theorem cond_fst {α β : Type} (t : Bool) (x y : α × β) : (cond t x y).1 = cond t x.1 y.1 := by cases t <;> rfl
theorem cond_snd {α β : Type} (t : Bool) (x y : α × β) : (cond t x y).2 = cond t x.2 y.2 := by cases t <;> rfl
theorem codes (a b c d e f : Int) : r10_0 a b c d e f = cond (r19_0 a b c d e f != 0) (r19_0 a b c d e f) 0 := by
  unfold r10_0 R10
  rw [cond_fst, spec_str]
theorem texts (a b c d e f : Int) : r10_1 a b c d e f = cond (r19_0 a b c d e f != 0) ByteArray.empty ((((((((((((dig a) ++ (ByteArray.mk #[32])) ++ (r21_0 b)) ++ ByteArray.mk #[32]) ++ dig c) ++ ByteArray.mk #[32]) ++ dig d) ++ ByteArray.mk #[32]) ++ dig e) ++ ByteArray.mk #[32]) ++ dig f)) := by
  unfold r10_1 R10
  rw [cond_snd, spec_str]
theorem empty_app (x : ByteArray) : (ByteArray.mk #[] : ByteArray) ++ x = x := by apply ByteArray.ext; simp

/-- **At every command the two answer alike.** -/
theorem law4 (a b c d e f : Int) (h0 : a ≤ 9223372036854775807) (h1 : b ≤ 9223372036854775807) (h2 : c ≤ 9223372036854775807) (h3 : d ≤ 9223372036854775807) (h4 : e ≤ 9223372036854775807) (h5 : f ≤ 9223372036854775807) : r4_0 a b c d e f = true := by
  have s1 : r12_0 a b c d e f = r10_0 a b c d e f := by
    rw [codes]
    unfold r12_0
    rw [fault]
  have s2 : r12_1 a b c d e f = r10_1 a b c d e f := by
    rw [texts]
    unfold r12_1
    rw [fault]
    by_cases hz : r19_0 a b c d e f = 0
    · obtain ⟨p1, p2, p3, p4, p5, p6, p7⟩ := fault_zero a b c d e f hz
      rw [hz, impl_str, text21 b p3 h1, dig_itoa a (by omega) h0, dig_itoa c p4 h2, dig_itoa d p5 h3, dig_itoa e p6 h4, dig_itoa f p7 h5, empty_app]
    · have hz' : (r19_0 a b c d e f != 0) = true := by simpa using hz
      rw [hz', cond_true, cond_true]
  unfold r4_0 r13_0
  rw [s1, s2]
  simp
end Go.E
