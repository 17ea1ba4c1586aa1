/- A part of an evaluator of the model and of the proof that what it answers the model does; no condition. -/
import Derived.Test.YtcjmogljihkfnaaEvRegionC
set_option linter.unusedVariables false
set_option linter.unusedSimpArgs false
namespace Go.Ev
set_option linter.unusedSectionVars false
variable [Atoms]
open Go.RowKit (Below)

def befOf (T : Tree Nat) (i : Nat) : Nat := match T.get i with | some n => n | none => 0

def befRow (T : Tree Nat) : List Edge → Nat
  | [] => 0
  | e :: r => bif Region.binds .any e then Nat.lor (Nat.lor (Nat.shiftLeft 1 e.on) (befOf T e.on)) (befRow T r) else befRow T r

def befRows (T : Tree Nat) : Nat → List Oper → Bool
  | _, [] => true
  | i, o :: r => Nat.beq (befOf T i) (befRow T o.after.toList) && o.after.toList.all (fun e => !Region.binds .any e || Nat.blt e.on i) && befRows T (i + 1) r

def nodM : Nat → List Nat → Bool
  | _, [] => true
  | M, i :: r => !bit M i && nodM (Nat.lor M (Nat.shiftLeft 1 i)) r

def maskOf : Nat → List Nat → Nat
  | M, [] => M
  | M, i :: r => maskOf (Nat.lor M (Nat.shiftLeft 1 i)) r

def okPlan (C : Ctx) (nt : Nat) (ops : Array Oper) (T : Tree Nat) (pl : Plan) : Bool :=
  ops.toList.all (opOk nt) && befRows T 0 ops.toList && okFloats C ops (befOf T) 0 [] pl.first && okReads C ops 0 pl.again pl.first.reverse && okRest C ops (befOf T) pl.first.reverse pl.rest &&
    nodM 0 (pl.first ++ rem pl.rest) && Nat.beq (pl.first.length + (rem pl.rest).length) ops.size && (pl.first ++ rem pl.rest).all (fun i => Nat.blt i ops.size)

section
variable {B : Nat} {w0 : World} {μ : Mu} {m : Mem} {w : World} {P : Program} {C : Ctx} {ops : Array Oper} {nt : Nat}

theorem mbit_or {a b i : Nat} : bit (Nat.lor a b) i = (bit a i || bit b i) := Nat.testBit_or a b i
theorem mbit_one {i j : Nat} : bit (Nat.shiftLeft 1 i) j = decide (i = j) := by
  show Nat.testBit (1 <<< i) j = _
  rw [Nat.one_shiftLeft, Nat.testBit_two_pow]
theorem mbit_zero {i : Nat} : bit 0 i = false := Nat.zero_testBit i

theorem befRow_spec {T : Tree Nat} : ∀ {l : List Edge} {j : Nat}, bit (befRow T l) j = true → ∃ e ∈ l, Region.binds .any e = true ∧ (j = e.on ∨ bit (befOf T e.on) j = true)
  | [], j, h => by simp [befRow, mbit_zero] at h
  | e :: r, j, h => by
    unfold befRow at h
    cases hb : Region.binds .any e with
    | false =>
      rw [hb] at h
      obtain ⟨e', h1, h2⟩ := befRow_spec h
      exact ⟨e', List.mem_cons_of_mem _ h1, h2⟩
    | true =>
      rw [hb] at h
      simp only [cond_true, mbit_or, mbit_one, Bool.or_eq_true, decide_eq_true_eq] at h
      rcases h with (h | h) | h
      · exact ⟨e, List.mem_cons_self, hb, .inl h.symm⟩
      · exact ⟨e, List.mem_cons_self, hb, .inr h⟩
      · obtain ⟨e', h1, h2⟩ := befRow_spec h
        exact ⟨e', List.mem_cons_of_mem _ h1, h2⟩

theorem befRows_spec {T : Tree Nat} : ∀ {l : List Oper} {n : Nat}, befRows T n l = true → ∀ i o, l[i]? = some o →
    (∀ j, bit (befOf T (n + i)) j = true → ∃ e ∈ o.after, Region.binds .any e = true ∧ (j = e.on ∨ bit (befOf T e.on) j = true)) ∧ (∀ e ∈ o.after, Region.binds .any e = true → e.on < n + i)
  | [], n, _, i, o, h => by simp at h
  | o :: r, n, h, i, o', ho => by
    simp only [befRows, Bool.and_eq_true] at h
    obtain ⟨⟨h1, h2⟩, h3⟩ := h
    cases i with
    | zero =>
      simp only [List.getElem?_cons_zero, Option.some.injEq] at ho
      subst ho
      rw [Nat.add_zero, Nat.eq_of_beq_eq_true h1]
      refine ⟨fun j hj => ?_, fun e he hb => ?_⟩
      · obtain ⟨e, he, h⟩ := befRow_spec hj
        exact ⟨e, Array.mem_toList_iff.1 he, h⟩
      · have := List.all_eq_true.1 h2 e (Array.mem_toList_iff.2 he)
        rw [hb] at this
        simp only [Bool.not_true, Bool.false_or] at this
        exact Nat.le_of_ble_eq_true this
    | succ i =>
      rw [show n + (i + 1) = n + 1 + i from by omega]
      exact befRows_spec h3 i o' (by simpa using ho)

theorem nodM_spec : ∀ {l : List Nat} {M : Nat}, nodM M l = true → l.Nodup ∧ ∀ i ∈ l, bit M i = false
  | [], _, _ => ⟨List.nodup_nil, fun _ h => by cases h⟩
  | a :: r, M, h => by
    simp only [nodM, Bool.and_eq_true, Bool.not_eq_true'] at h
    obtain ⟨h1, h2⟩ := nodM_spec h.2
    simp only [mbit_or, mbit_one, Bool.or_eq_false_iff, decide_eq_false_iff_not] at h2
    refine ⟨List.nodup_cons.2 ⟨fun q => (h2 a q).2 rfl, h1⟩, fun i hi => ?_⟩
    rcases List.mem_cons.1 hi with rfl | hi
    · exact h.1
    · exact (h2 i hi).1

theorem nodup_full : ∀ (N : Nat) (l : List Nat), l.Nodup → (∀ i ∈ l, i < N) → l.length = N → ∀ i, i < N → i ∈ l
  | 0, _, _, _, _, i, hi => by omega
  | N + 1, l, h1, h2, h3, i, hi => by
    by_cases hN : N ∈ l
    · by_cases hiN : i = N
      · subst hiN; exact hN
      · have := nodup_full N (l.erase N) (h1.erase N) (fun j hj => by
          obtain ⟨a, b⟩ := h1.mem_erase_iff.1 hj
          have := h2 j b
          omega) (by rw [List.length_erase_of_mem hN]; omega) i (by omega)
        exact (h1.mem_erase_iff.1 this).2
    · -- too many below N
      exfalso
      have lt : ∀ j ∈ l, j < N := fun j hj => by
        have := h2 j hj
        have : j ≠ N := fun e => hN (e ▸ hj)
        omega
      cases l with
      | nil => simp at h3
      | cons a r =>
        have hr := nodup_full N r (List.nodup_cons.1 h1).2 (fun j hj => lt j (List.mem_cons_of_mem _ hj)) (by simpa using h3) a (lt a List.mem_cons_self)
        exact (List.nodup_cons.1 h1).1 hr

theorem runPlan_sound (hC : C.Ok P) (hE : C.EqOk P) (hm : P.follows .mixedOrders = true) {call : CallF} (hcall : ∀ f, CallOk P B w0 f (call f)) {T : Tree Nat} {pl : Plan} (hok : okPlan C nt ops T pl = true) {id : Nat} {s sf : Slots} {a : Act}
    {mf : Mem} (h : Rel B w0 μ m w) (hs : SRel μ nt s a) (hrun : runPlan C call ops pl s m = some (sf, mf)) {Q : Exit → Act → World → Prop}
    (hQ : ∀ a' w' μ', SRel μ' nt sf a' → Rel B w0 μ' mf w' → Ext μ m μ' mf → Q .normal a' w') : (Code.region id ops true).wp P Q a w := by
  unfold okPlan at hok
  simp only [Bool.and_eq_true] at hok
  obtain ⟨⟨⟨⟨⟨⟨⟨k1, k2⟩, k3⟩, k4⟩, k5⟩, k6⟩, k7⟩, k8⟩ := hok
  obtain ⟨n1, _⟩ := nodM_spec k6
  have k7' := Nat.eq_of_beq_eq_true k7
  have bnd : ∀ i ∈ pl.first ++ rem pl.rest, i < ops.size := fun i hi => Nat.le_of_ble_eq_true (List.all_eq_true.1 k8 i hi)
  have full := nodup_full ops.size _ n1 bnd (by rw [List.length_append]; exact k7')
  have hops : ∀ (i : Nat) (o : Oper), ops[i]? = some o → opOk nt o = true := fun i o ho => List.all_eq_true.1 k1 o (by rw [← Array.getElem?_toList] at ho; exact List.mem_of_getElem? ho)
  have hbs := befRows_spec k2
  unfold runPlan at hrun
  obtain ⟨sm, hf, hrun⟩ := Option.bind_eq_some_iff.1 hrun
  obtain ⟨s1, m1⟩ := sm
  simp only at hrun
  cases hag : again C ops s1 m1 pl.again with
  | false => rw [hag] at hrun; cases hrun
  | true =>
    rw [hag] at hrun
    simp only [cond_true] at hrun
    refine wp_region_any hm ?_
    have hd : Rel B w0 μ m { w with drawn := w.drawn + 1 } := h.drew
    obtain ⟨f1, f2, f3⟩ := List.nodup_append.1 n1
    have hX : SRelX μ nt s a (dsts ops []) := .of hs _
    obtain ⟨ph, q1, q2, q3, q4⟩ := floats_run (n0 := m.next) (pend := []) (ph := fun _ => none) pl.first k3 (fun i hi => by cases hi) (fun _ _ => mbit_zero) f1 (fun _ _ hc => by cases hc) hf hd (Nat.le_refl _) hX
      ⟨fun i hi => (by cases hi), fun i hi => (by cases hi), fun i hi => (by cases hi)⟩
    rw [List.append_nil] at q2 q3
    have lsz : (Array.replicate ops.size false).size = ops.size := by simp
    have lf : ∀ j, (Array.replicate ops.size false).getD j false = false := fun j => by
      simp [Array.getD_eq_getD_getElem?, Array.getElem?_replicate]
      split <;> rfl
    refine any_sound hC hE hcall hops (bef := befOf T) (fun i o ho => by simpa using (hbs i o (by simpa using ho)).1) (fun i o ho => by simpa using (hbs i o (by simpa using ho)).2) hQ ops.size
      (rest := pl.rest) (D := pl.first.reverse) (pend := pl.first.reverse) (ph := ph) lsz (fun j hj => by rw [lf] at hj; cases hj) ?_ ?_ (by rw [List.length_reverse]; exact k7') k5 (fun _ h => h) q1 q4 q2 q3 (fun i hi => okReads_spec k4 hag hi mbit_zero) hrun
    · intro i
      rw [lf, List.mem_reverse, ← List.mem_append]
      exact ⟨fun h => full i h.1, fun h => ⟨bnd i h, rfl⟩⟩
    · refine List.nodup_append.2 ⟨(by unfold List.Nodup; rw [List.pairwise_reverse]; exact f1.imp Ne.symm), f2, fun x hx y hy => f3 x (List.mem_reverse.1 hx) y hy⟩

end
end Go.Ev
