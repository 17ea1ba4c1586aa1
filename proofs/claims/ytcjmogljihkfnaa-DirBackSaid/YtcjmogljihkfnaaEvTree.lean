/- A part of an evaluator of the model and of the proof that what it answers the model does; no condition. -/
import Derived.Test.YtcjmogljihkfnaaEvDefs
set_option linter.unusedVariables false
set_option linter.unusedSimpArgs false
namespace Go.Ev

theorem nbeq0 {n : Nat} (h : 0 < n) : Nat.beq n 0 = false := by cases n with | zero => omega | succ n => rfl

theorem Tree.get_setF {α : Type} : ∀ (f : Nat) (t : Tree α) (n : Nat) (x : α), n < f → (Tree.setF f t n x).get n = some x
  | 0, _, _, _, h => absurd h (by omega)
  | f + 1, .leaf, n, x, h => by
    unfold Tree.setF
    rcases Nat.eq_zero_or_pos n with h0 | h0
    · subst h0; simp [Tree.get]
    · have e0 : Nat.beq n 0 = false := nbeq0 (by omega)
      rw [e0]
      rcases Nat.mod_two_eq_zero_or_one n with h2 | h2
      · have e1 : Nat.beq (n % 2) 1 = false := by rw [h2]; rfl
        rw [e1]
        simp only [cond_false, Tree.get, e0, e1]
        exact Tree.get_setF f _ _ _ (by omega)
      · have e1 : Nat.beq (n % 2) 1 = true := by rw [h2]; rfl
        rw [e1]
        simp only [cond_false, cond_true, Tree.get, e0, e1]
        exact Tree.get_setF f _ _ _ (by omega)
  | f + 1, .node v l r, n, x, h => by
    unfold Tree.setF
    rcases Nat.eq_zero_or_pos n with h0 | h0
    · subst h0; simp [Tree.get]
    · have e0 : Nat.beq n 0 = false := nbeq0 (by omega)
      rw [e0]
      rcases Nat.mod_two_eq_zero_or_one n with h2 | h2
      · have e1 : Nat.beq (n % 2) 1 = false := by rw [h2]; rfl
        rw [e1]
        simp only [cond_false, Tree.get, e0, e1]
        exact Tree.get_setF f _ _ _ (by omega)
      · have e1 : Nat.beq (n % 2) 1 = true := by rw [h2]; rfl
        rw [e1]
        simp only [cond_false, cond_true, Tree.get, e0, e1]
        exact Tree.get_setF f _ _ _ (by omega)

theorem Tree.get_setF_ne {α : Type} : ∀ (f : Nat) (t : Tree α) (n k : Nat) (x : α), n < f → k ≠ n → (Tree.setF f t n x).get k = t.get k
  | 0, _, _, _, _, h, _ => absurd h (by omega)
  | f + 1, .leaf, n, k, x, h, hk => by
    unfold Tree.setF
    have split : ∀ (t' : Tree α) (k' : Nat), t'.get k' = (Tree.leaf : Tree α).get k' → t'.get k' = none := fun t' k' h => by rw [h]; rfl
    rcases Nat.eq_zero_or_pos n with h0 | h0
    · subst h0
      have ek : Nat.beq k 0 = false := nbeq0 (by omega)
      simp only [show Nat.beq 0 0 = true from rfl, cond_true, Tree.get, ek, cond_false]
      cases Nat.beq (k % 2) 1 <;> rfl
    · have e0 : Nat.beq n 0 = false := nbeq0 (by omega)
      rw [e0]
      rcases Nat.eq_zero_or_pos k with k0 | k0
      · subst k0
        rcases Nat.mod_two_eq_zero_or_one n with h2 | h2
        · have e1 : Nat.beq (n % 2) 1 = false := by rw [h2]; rfl
          rw [e1]; simp [Tree.get]
        · have e1 : Nat.beq (n % 2) 1 = true := by rw [h2]; rfl
          rw [e1]; simp [Tree.get]
      · have ek : Nat.beq k 0 = false := nbeq0 (by omega)
        rcases Nat.mod_two_eq_zero_or_one n with h2 | h2 <;> rcases Nat.mod_two_eq_zero_or_one k with k2 | k2
        · have e1 : Nat.beq (n % 2) 1 = false := by rw [h2]; rfl
          have f1 : Nat.beq (k % 2) 1 = false := by rw [k2]; rfl
          rw [e1]; simp only [cond_false, Tree.get, ek, f1]
          exact split _ _ (Tree.get_setF_ne f _ _ _ _ (by omega) (by omega))
        · have e1 : Nat.beq (n % 2) 1 = false := by rw [h2]; rfl
          have f1 : Nat.beq (k % 2) 1 = true := by rw [k2]; rfl
          rw [e1]; simp only [cond_false, cond_true, Tree.get, ek, f1]
        · have e1 : Nat.beq (n % 2) 1 = true := by rw [h2]; rfl
          have f1 : Nat.beq (k % 2) 1 = false := by rw [k2]; rfl
          rw [e1]; simp only [cond_false, cond_true, Tree.get, ek, f1]
        · have e1 : Nat.beq (n % 2) 1 = true := by rw [h2]; rfl
          have f1 : Nat.beq (k % 2) 1 = true := by rw [k2]; rfl
          rw [e1]; simp only [cond_false, cond_true, Tree.get, ek, f1]
          exact split _ _ (Tree.get_setF_ne f _ _ _ _ (by omega) (by omega))
  | f + 1, .node v l r, n, k, x, h, hk => by
    unfold Tree.setF
    rcases Nat.eq_zero_or_pos n with h0 | h0
    · subst h0
      have ek : Nat.beq k 0 = false := nbeq0 (by omega)
      simp only [show Nat.beq 0 0 = true from rfl, cond_true, Tree.get, ek, cond_false]
    · have e0 : Nat.beq n 0 = false := nbeq0 (by omega)
      rw [e0]
      rcases Nat.eq_zero_or_pos k with k0 | k0
      · subst k0
        rcases Nat.mod_two_eq_zero_or_one n with h2 | h2
        · have e1 : Nat.beq (n % 2) 1 = false := by rw [h2]; rfl
          rw [e1]; simp [Tree.get]
        · have e1 : Nat.beq (n % 2) 1 = true := by rw [h2]; rfl
          rw [e1]; simp [Tree.get]
      · have ek : Nat.beq k 0 = false := nbeq0 (by omega)
        rcases Nat.mod_two_eq_zero_or_one n with h2 | h2 <;> rcases Nat.mod_two_eq_zero_or_one k with k2 | k2
        · have e1 : Nat.beq (n % 2) 1 = false := by rw [h2]; rfl
          have f1 : Nat.beq (k % 2) 1 = false := by rw [k2]; rfl
          rw [e1]; simp only [cond_false, Tree.get, ek, f1]
          exact Tree.get_setF_ne f _ _ _ _ (by omega) (by omega)
        · have e1 : Nat.beq (n % 2) 1 = false := by rw [h2]; rfl
          have f1 : Nat.beq (k % 2) 1 = true := by rw [k2]; rfl
          rw [e1]; simp only [cond_false, cond_true, Tree.get, ek, f1]
        · have e1 : Nat.beq (n % 2) 1 = true := by rw [h2]; rfl
          have f1 : Nat.beq (k % 2) 1 = false := by rw [k2]; rfl
          rw [e1]; simp only [cond_false, cond_true, Tree.get, ek, f1]
        · have e1 : Nat.beq (n % 2) 1 = true := by rw [h2]; rfl
          have f1 : Nat.beq (k % 2) 1 = true := by rw [k2]; rfl
          rw [e1]; simp only [cond_false, cond_true, Tree.get, ek, f1]
          exact Tree.get_setF_ne f _ _ _ _ (by omega) (by omega)

theorem Tree.get_set {α : Type} (t : Tree α) (n k : Nat) (x : α) : (t.set n x).get k = if k = n then some x else t.get k := by
  unfold Tree.set
  by_cases h : k = n
  · subst h; rw [if_pos rfl]; exact Tree.get_setF _ _ _ _ (by omega)
  · rw [if_neg h]; exact Tree.get_setF_ne _ _ _ _ _ (by omega) h

@[simp] theorem Mem.next_put (m : Mem) (o : Nat) (x : AObj) : (m.put o x).next = m.next := rfl
@[simp] theorem Mem.next_new (m : Mem) (x : AObj) : (m.new x).next = m.next + 1 := rfl
theorem Mem.get_put (m : Mem) (o k : Nat) (x : AObj) : (m.put o x).get k = if k = o then some x else m.get k := Tree.get_set _ _ _ _
theorem Mem.get_new (m : Mem) (k : Nat) (x : AObj) : (m.new x).get k = if k = m.next then some x else m.get k := Tree.get_set _ _ _ _

theorem UNK_pos : 0 < UNK := by decide
theorem unk_sub {m k : Nat} (h : UNK ≤ m) (hk : k ≤ lbOf m) : UNK ≤ m - UNK * k ∧ szOf (m - UNK * k) = szOf m ∧ lbOf (m - UNK * k) = lbOf m - k := by
  unfold lbOf szOf at *
  have hq : 1 ≤ m / UNK := (Nat.le_div_iff_mul_le UNK_pos).2 (by omega)
  have e : UNK * (m / UNK) + m % UNK = m := Nat.div_add_mod m UNK
  have e2 : m - UNK * k = UNK * (m / UNK - k) + m % UNK := by
    have : UNK * (m / UNK - k) = UNK * (m / UNK) - UNK * k := Nat.mul_sub _ _ _
    have h3 : UNK * k ≤ UNK * (m / UNK) := Nat.mul_le_mul_left _ (by omega)
    omega
  have hlt : m % UNK < UNK := Nat.mod_lt _ UNK_pos
  have h1 : (UNK * (m / UNK - k) + m % UNK) / UNK = m / UNK - k := by
    rw [Nat.mul_add_div UNK_pos, Nat.div_eq_of_lt hlt, Nat.add_zero]
  have h2 : (UNK * (m / UNK - k) + m % UNK) % UNK = m % UNK := by
    rw [Nat.mul_add_mod, Nat.mod_mod]
  rw [e2, h1, h2]
  refine ⟨?_, rfl, by omega⟩
  have : UNK * 1 ≤ UNK * (m / UNK - k) := Nat.mul_le_mul_left _ (by omega)
  omega

theorem szOf_grown {esz n : Nat} (h : esz < UNK) : szOf (UNK + esz + UNK * n) = esz := by
  unfold szOf
  have : UNK + esz + UNK * n = UNK * (n + 1) + esz := by rw [Nat.mul_add]; omega
  rw [this, Nat.mul_add_mod, Nat.mod_eq_of_lt h]
theorem lbOf_grown {esz n : Nat} (h : esz < UNK) : lbOf (UNK + esz + UNK * n) = n := by
  unfold lbOf
  have : UNK + esz + UNK * n = UNK * (n + 1) + esz := by rw [Nat.mul_add]; omega
  rw [this, Nat.mul_add_div UNK_pos, Nat.div_eq_of_lt h]
  omega
theorem unk_le_grown (esz n : Nat) : UNK ≤ UNK + esz + UNK * n := Nat.le_trans (Nat.le_add_right _ _) (Nat.le_add_right _ _)

end Go.Ev
