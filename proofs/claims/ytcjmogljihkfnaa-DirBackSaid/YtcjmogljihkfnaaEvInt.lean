/- A part of an evaluator of the model and of the proof that what it answers the model does; no condition. -/
import Derived.Test.YtcjmogljihkfnaaEvRelE
set_option linter.unusedVariables false
set_option linter.unusedSimpArgs false
namespace Go.Ev

theorem wrap_in (k : IntKind) (n : Int) (h0 : kLo k ≤ n) (h1 : n ≤ kHi k) : k.wrap n = n := by
  cases k <;> simp only [kLo, kHi] at h0 h1 <;> simp [IntKind.wrap, IntKind.bits, IntKind.signed] <;> omega

theorem wrapF_eq (k : IntKind) (n : Int) : wrapF k n = k.wrap n := by
  unfold wrapF inK
  cases h : (decide (kLo k ≤ n) && decide (n ≤ kHi k)) with
  | false => rfl
  | true =>
    rw [Bool.and_eq_true] at h
    exact (wrap_in k n (of_decide_eq_true h.1) (of_decide_eq_true h.2)).symm

theorem wrap64_id {n : Int} (h0 : 0 ≤ n) (h1 : n ≤ 9223372036854775807) : IntKind.i64.wrap n = n := wrap_in .i64 n (by simp only [kLo]; omega) (by simpa only [kHi] using h1)

theorem pow2_cast (k : IntKind) : ((pow2 k : Nat) : Int) = (2 ^ k.bits : Int) := by
  unfold pow2; cases k <;> rfl

theorem ofInt_toNat (n : Nat) (x : Int) : (BitVec.ofInt n x).toNat = (x % (2 ^ n : Int)).toNat := by
  rw [BitVec.toNat_ofInt]
  congr 1

theorem mod_nat {k : IntKind} {a : Int} (h0 : 0 ≤ a) (h1 : a ≤ kHi k) : (a % (2 ^ k.bits : Int)) = if k.signed then a else a := by
  split <;> (cases k <;> simp only [kHi] at h1 <;> simp [IntKind.bits] <;> omega)

theorem bit_gen (f : Nat → Nat → Nat) (k : IntKind) (a b : Int) (hf : ∀ x y, x ≤ (kHi k).toNat → y ≤ (kHi k).toNat → f x y ≤ (kHi k).toNat) :
    bitOp f k a b = k.wrap (f (a % (2 ^ k.bits : Int)).toNat (b % (2 ^ k.bits : Int)).toNat : Nat) := by
  unfold bitOp bothNat
  rw [pow2_cast]
  cases h : (decide (0 ≤ a) && decide (a ≤ kHi k) && decide (0 ≤ b) && decide (b ≤ kHi k)) with
  | false => rfl
  | true =>
    rw [Bool.and_eq_true, Bool.and_eq_true, Bool.and_eq_true] at h
    have h1 := of_decide_eq_true h.1.1.1
    have h2 := of_decide_eq_true h.1.1.2
    have h3 := of_decide_eq_true h.1.2
    have h4 := of_decide_eq_true h.2
    have m1 := mod_nat h1 h2
    have m2 := mod_nat h3 h4
    simp only [ite_self] at m1 m2
    rw [m1, m2]
    have := hf a.toNat b.toNat (by omega) (by omega)
    have hk : 0 ≤ kHi k := by omega
    have hlo : kLo k ≤ 0 := by cases k <;> simp [kLo]
    rw [wrap_in k _ (by omega) (by omega)]
    rfl

theorem kHi_pow (k : IntKind) : ∃ n, (kHi k).toNat = 2 ^ n - 1 := by
  cases k
  · exact ⟨7, rfl⟩
  · exact ⟨15, rfl⟩
  · exact ⟨31, rfl⟩
  · exact ⟨63, rfl⟩
  · exact ⟨8, rfl⟩
  · exact ⟨16, rfl⟩
  · exact ⟨32, rfl⟩
  · exact ⟨64, rfl⟩

theorem land_le {n x y : Nat} (hx : x ≤ 2 ^ n - 1) (_ : y ≤ 2 ^ n - 1) : Nat.land x y ≤ 2 ^ n - 1 := Nat.le_trans (Nat.and_le_left (n := x) (m := y)) hx
theorem lor_le {n x y : Nat} (hx : x ≤ 2 ^ n - 1) (hy : y ≤ 2 ^ n - 1) : Nat.lor x y ≤ 2 ^ n - 1 := by
  have hp : 0 < 2 ^ n := Nat.two_pow_pos n
  have := Nat.or_lt_two_pow (x := x) (y := y) (n := n) (by omega) (by omega)
  have e : Nat.lor x y = x ||| y := rfl
  rw [e]; omega
theorem xor_le {n x y : Nat} (hx : x ≤ 2 ^ n - 1) (hy : y ≤ 2 ^ n - 1) : Nat.xor x y ≤ 2 ^ n - 1 := by
  have hp : 0 < 2 ^ n := Nat.two_pow_pos n
  have := Nat.xor_lt_two_pow (x := x) (y := y) (n := n) (by omega) (by omega)
  have e : Nat.xor x y = x ^^^ y := rfl
  rw [e]; omega

theorem bit_and (k : IntKind) (a b : Int) : bitOp Nat.land k a b = k.wrap (BitVec.ofInt k.bits a &&& BitVec.ofInt k.bits b).toNat := by
  obtain ⟨n, hn⟩ := kHi_pow k
  rw [bit_gen _ _ _ _ (fun x y hx hy => by rw [hn] at *; exact land_le hx hy), BitVec.toNat_and, ofInt_toNat, ofInt_toNat]
  rfl
theorem bit_or (k : IntKind) (a b : Int) : bitOp Nat.lor k a b = k.wrap (BitVec.ofInt k.bits a ||| BitVec.ofInt k.bits b).toNat := by
  obtain ⟨n, hn⟩ := kHi_pow k
  rw [bit_gen _ _ _ _ (fun x y hx hy => by rw [hn] at *; exact lor_le hx hy), BitVec.toNat_or, ofInt_toNat, ofInt_toNat]
  rfl
theorem bit_xor (k : IntKind) (a b : Int) : bitOp Nat.xor k a b = k.wrap (BitVec.ofInt k.bits a ^^^ BitVec.ofInt k.bits b).toNat := by
  obtain ⟨n, hn⟩ := kHi_pow k
  rw [bit_gen _ _ _ _ (fun x y hx hy => by rw [hn] at *; exact xor_le hx hy), BitVec.toNat_xor, ofInt_toNat, ofInt_toNat]
  rfl

theorem strEq_iff : ∀ (a b : List UInt8), strEq a b = (a == b)
  | [], [] => rfl
  | [], _ :: _ => rfl
  | _ :: _, [] => rfl
  | a :: x, b :: y => by
    simp only [strEq]
    rw [strEq_iff x y, List.cons_beq_cons]
    congr 1
    cases h : Nat.beq a.toNat b.toNat with
    | true => have := Nat.eq_of_beq_eq_true h; have := UInt8.toNat_inj.1 this; subst this; simp
    | false =>
      have hne : a ≠ b := by rintro rfl; rw [Nat.beq_refl] at h; cases h
      exact (beq_eq_false_iff_ne.2 hne).symm

theorem strLess_iff : ∀ (a b : List UInt8), strLess a b = Op.bytesLess a b
  | [], [] => rfl
  | [], _ :: _ => rfl
  | _ :: _, [] => rfl
  | a :: x, b :: y => by
    simp only [strLess, Op.bytesLess]
    rw [strLess_iff x y]
    congr 1
    · cases h : Nat.blt a.toNat b.toNat with
      | true => have := Nat.le_of_ble_eq_true h; exact (decide_eq_true (UInt8.lt_iff_toNat_lt.2 this)).symm
      | false =>
        refine (decide_eq_false ?_).symm
        intro hlt
        have := UInt8.lt_iff_toNat_lt.1 hlt
        have h2 : Nat.blt a.toNat b.toNat = true := Nat.ble_eq_true_of_le this
        rw [h2] at h; cases h
    · congr 1
      cases h : Nat.beq a.toNat b.toNat with
      | true => have := Nat.eq_of_beq_eq_true h; have := UInt8.toNat_inj.1 this; subst this; simp
      | false =>
        have hne : a ≠ b := by rintro rfl; rw [Nat.beq_refl] at h; cases h
        exact (beq_eq_false_iff_ne.2 hne).symm

theorem bytesLess_total : ∀ (a b : List UInt8), (Op.bytesLess a b || a == b) = !Op.bytesLess b a
  | [], [] => rfl
  | [], _ :: _ => rfl
  | _ :: _, [] => rfl
  | a :: x, b :: y => by
    have ih := bytesLess_total x y
    simp only [Op.bytesLess, List.cons_beq_cons]
    rcases Nat.lt_trichotomy a.toNat b.toNat with h | h | h
    · have h1 : (a < b) := UInt8.lt_iff_toNat_lt.2 h
      have h2 : ¬ (b < a) := fun hh => by have := UInt8.lt_iff_toNat_lt.1 hh; omega
      have h3 : (b == a) = false := beq_eq_false_iff_ne.2 (by rintro rfl; omega)
      simp [h1, h2, h3]
    · have := UInt8.toNat_inj.1 h; subst this
      have h2 : ¬ (a < a) := fun hh => by have := UInt8.lt_iff_toNat_lt.1 hh; omega
      simp [h2]; simpa using ih
    · have h1 : (b < a) := UInt8.lt_iff_toNat_lt.2 h
      have h2 : ¬ (a < b) := fun hh => by have := UInt8.lt_iff_toNat_lt.1 hh; omega
      have h3 : (a == b) = false := beq_eq_false_iff_ne.2 (by rintro rfl; omega)
      simp [h1, h2, h3]

end Go.Ev
