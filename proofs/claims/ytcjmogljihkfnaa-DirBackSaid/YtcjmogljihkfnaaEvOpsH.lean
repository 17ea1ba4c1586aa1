/- A part of an evaluator of the model and of the proof that what it answers the model does; no condition. -/
import Derived.Test.YtcjmogljihkfnaaEvOpsG
set_option linter.unusedVariables false
set_option linter.unusedSimpArgs false
namespace Go.Ev
set_option linter.unusedSectionVars false
variable [Atoms]
open Go.RowKit (Below)

section
variable {B : Nat} {w0 : World} {μ : Mu} {m : Mem} {w : World} {P : Program} {C : Ctx}

/-- the struct types whose values may be compared -/
structure Ctx.EqOk (C : Ctx) (P : Program) : Prop where
  stood : ∀ t, C.eqs.contains t = true → P.stoodInHeld t = false
  guard : ∀ t, C.eqs.contains t = true → P.eqGuardType P.depth t = false

theorem name_ne {s : String} (h : (s == "_") = false) : s ≠ "_" := by
  rintro rfl; simp at h

theorem eqFields_sound (hC : C.Ok P) {f : TypeId → Value → Value → Option Bool} {d : Nat}
    (hf : ∀ t x y x' y' b, VRel μ x x' → VRel μ y y' → f t x y = some b → ∀ w, (Op.equalIn d t x' y').run P w = .ok b w) :
    ∀ (fs : List Field) (xs ys : List Value) (xs' ys' : Array Value) (b : Bool), LRel μ xs xs'.toList → LRel μ ys ys'.toList → eqFields C f xs ys fs = some b → ∀ w, (Op.eqFields d xs' ys' fs).run P w = .ok b w
  | [], xs, ys, xs', ys', b, hx, hy, h, w => by
    simp only [eqFields, Option.some.injEq] at h
    subst h
    rfl
  | g :: r, xs, ys, xs', ys', b, hx, hy, h, w => by
    simp only [eqFields] at h
    cases hn : (g.name == "_") with
    | true => rw [hn] at h; cases h
    | false =>
      rw [hn] at h
      simp only [cond_false] at h
      cases hu : partV C g.type xs g.offset with
      | none => rw [hu] at h; cases h
      | some u =>
        rw [hu] at h
        simp only [Option.bind_some] at h
        cases hv : partV C g.type ys g.offset with
        | none => rw [hv] at h; cases h
        | some v =>
          rw [hv] at h
          simp only [Option.bind_some] at h
          cases hb : f g.type u v with
          | none => rw [hb] at h; cases h
          | some b' =>
            rw [hb] at h
            simp only [Option.bind_some] at h
            obtain ⟨u', h1, h2⟩ := partV_sound hC hx hu w
            obtain ⟨v', h3, h4⟩ := partV_sound hC hy hv w
            have h5 := hf _ _ _ _ _ _ h2 h4 hb w
            simp only [Op.eqFields]
            rw [if_pos (name_ne hn)]
            simp only [Sem.run_bind, h1, Result.andThen_ok, h3, h5]
            cases b' with
            | true =>
              simp only [cond_true] at h
              simpa using eqFields_sound hC hf r xs ys xs' ys' b hx hy h w
            | false =>
              simp only [cond_false, Option.some.injEq] at h
              subst h
              simp

theorem nilEq_sound {d : Nat} {t : TypeId} {dd : TypeDesc} (hu : P.underlying t = some dd) {x y x' y' : Value} {b : Bool} (hx : VRel μ x x') (hy : VRel μ y y') (h : nilEq x y = some b)
    (hk : (∃ e, dd = .pointer e ∧ ∃ a, x = .pointer a) ∨ (∃ e, dd = .slice e ∧ ∃ a n c, x = .slice a n c) ∨ (∃ k e, dd = .map k e ∧ ∃ a, x = .map a) ∨ (∃ p r v, dd = .func p r v ∧ (x = .nilFunc ∨ ∃ f a c, x = .func f a c))) (w : World) :
    (Op.equalIn (d + 1) t x' y').run P w = .ok b w := by
  rcases hk with ⟨e, rfl, a, rfl⟩ | ⟨e, rfl, a, n, c, rfl⟩ | ⟨k, e, rfl, a, rfl⟩ | ⟨p, r, v, rfl, hf⟩
  · cases hx <;> (cases hy <;> first | (cases h; done) | (simp only [nilEq, Option.some.injEq] at h; subst h; simp [Op.equalIn, run_underlying hu]))
  · cases hx <;> (cases hy <;> first | (cases h; done) | (simp only [nilEq, Option.some.injEq] at h; subst h; simp [Op.equalIn, run_underlying hu]))
  · cases hx <;> (cases hy <;> first | (cases h; done) | (simp only [nilEq, Option.some.injEq] at h; subst h; simp [Op.equalIn, run_underlying hu]))
  · rcases hf with rfl | ⟨f, a, c, rfl⟩
    · cases hx <;> (cases hy <;> first | (cases h; done) | (simp only [nilEq, Option.some.injEq] at h; subst h; simp [Op.equalIn, run_underlying hu]))
    · cases hx <;> (cases hy <;> first | (cases h; done) | (simp only [nilEq, Option.some.injEq] at h; subst h; simp [Op.equalIn, run_underlying hu]))

theorem flatV_int (hC : C.Ok P) {x x' : Value} (hx : VRel μ x x') (h : flatV C false x = true) : ∃ k n, x' = .int k n := by
  cases hx <;> simp only [flatV] at h <;> try (cases h; done)
  · rename_i j
    cases hk : C.kind j with
    | none => rw [hk] at h; cases h
    | some b =>
      rw [hk] at h
      exact (hC.kinds j b hk).2 (by simpa using h)
  · exact ⟨_, _, rfl⟩

theorem flatV_str (hC : C.Ok P) {x x' : Value} (hx : VRel μ x x') (h : flatV C true x = true) : ∃ s, x' = .string s := by
  cases hx <;> simp only [flatV] at h <;> try (cases h; done)
  · rename_i j
    cases hk : C.kind j with
    | none => rw [hk] at h; cases h
    | some b =>
      rw [hk] at h
      exact (hC.kinds j b hk).1 (by simpa using h)
  · exact ⟨_, rfl⟩

theorem factB_sound (hC : C.Ok P) {d : Nat} {t : TypeId} {str : Bool} {x y x' y' : Value} {b : Bool} (hx : VRel μ x x') (hy : VRel μ y y') (h : factB C str x y = some b)
    (ht : (str = false ∧ ∃ k, P.underlying t = some (.int k)) ∨ (str = true ∧ P.underlying t = some .string)) (w : World) : (Op.equalIn (d + 1) t x' y').run P w = .ok b w := by
  unfold factB at h
  cases hf : (flatV C str x && flatV C str y) with
  | false => rw [hf] at h; cases h
  | true =>
  rw [hf] at h
  simp only [cond_true] at h
  simp only [Bool.and_eq_true] at hf
  split at h
  · rename_i c hc
    simp only [Option.some.injEq] at h
    subst h
    obtain ⟨x1, y1, r1, r2, hh⟩ := hC.facts _ _ _ _ hc
    have e1 := r1 μ x' hx
    have e2 := r2 μ y' hy
    rcases ht with ⟨rfl, kk, ht⟩ | ⟨rfl, ht⟩
    · obtain ⟨k1, n1, f1⟩ := flatV_int hC hx hf.1
      rcases hh with ⟨k, m, n, rfl, rfl, h1⟩ | ⟨s, u, rfl, rfl, h1⟩
      · rw [e1, e2]
        simp only [intOp, Option.some.injEq, Value.bool.injEq] at h1
        subst h1
        have := run_equalIn_int (P := P) w d t k kk m n ht
        rw [this]
        rfl
      · rw [e1] at f1; cases f1
    · obtain ⟨s1, f1⟩ := flatV_str hC hx hf.1
      rcases hh with ⟨k, m, n, rfl, rfl, h1⟩ | ⟨s, u, rfl, rfl, h1⟩
      · rw [e1] at f1; cases f1
      · rw [e1, e2]
        simp only [strOp, Option.some.injEq, Value.bool.injEq] at h1
        subst h1
        rw [run_equalIn_string w d t _ _ ht, ByteArray.toList_eq, ByteArray.toList_eq, strEq_iff]
  · cases h

theorem eqv_sound (hC : C.Ok P) (hE : C.EqOk P) : ∀ (n : Nat) (d : Nat) (t : TypeId) (x y x' y' : Value) (b : Bool), n ≤ d → VRel μ x x' → VRel μ y y' → eqv C n t x y = some b →
    ∀ w, (Op.equalIn d t x' y').run P w = .ok b w
  | 0, _, _, _, _, _, _, _, _, _, _, h, _ => by cases h
  | n + 1, d, t, x, y, x', y', b, hle, hx, hy, h, w => by
    obtain ⟨d, rfl⟩ : ∃ d', d = d' + 1 := ⟨d - 1, by omega⟩
    unfold eqv at h
    cases hu : C.under t with
    | none => rw [hu] at h; cases h
    | some dd =>
    rw [hu] at h
    simp only [Option.bind_some] at h
    have hu' := hC.under hu
    cases dd with
    | bool =>
      simp only [eqD] at h
      cases hx <;> try (cases h; done)
      cases hy <;> try (cases h; done)
      simp only [Option.some.injEq] at h
      subst h
      exact run_equalIn_bool w d t _ _ hu'
    | int kk =>
      simp only [eqD] at h
      split at h
      case h_2 => exact factB_sound hC hx hy h (.inl ⟨rfl, kk, hu'⟩) w
      rename_i k a k' a'
      cases hx
      cases hy
      cases hd : decide (k = k') with
      | false => rw [hd] at h; cases h
      | true =>
        rw [hd] at h
        simp only [cond_true, Option.some.injEq] at h
        have := of_decide_eq_true hd
        subst this; subst h
        have := run_equalIn_int (P := P) w d t k kk a a' hu'
        rw [this]
        rfl
    | string =>
      simp only [eqD] at h
      split at h
      case h_2 => exact factB_sound hC hx hy h (.inr ⟨rfl, hu'⟩) w
      cases hx
      cases hy
      simp only [Option.some.injEq] at h
      subst h
      rw [run_equalIn_string w d t _ _ hu', ByteArray.toList_eq, ByteArray.toList_eq, strEq_iff]
    | pointer e =>
      simp only [eqD] at h
      split at h
      · exact nilEq_sound hu' hx hy h (.inl ⟨e, rfl, _, rfl⟩) w
      · cases h
    | slice e =>
      simp only [eqD] at h
      split at h
      · exact nilEq_sound hu' hx hy h (.inr (.inl ⟨e, rfl, _, _, _, rfl⟩)) w
      · cases h
    | map k e =>
      simp only [eqD] at h
      split at h
      · exact nilEq_sound hu' hx hy h (.inr (.inr (.inl ⟨k, e, rfl, _, rfl⟩))) w
      · cases h
    | func ps rs va =>
      simp only [eqD] at h
      split at h
      · exact nilEq_sound hu' hx hy h (.inr (.inr (.inr ⟨ps, rs, va, rfl, .inl rfl⟩))) w
      · exact nilEq_sound hu' hx hy h (.inr (.inr (.inr ⟨ps, rs, va, rfl, .inr ⟨_, _, _, rfl⟩⟩))) w
      · cases h
    | struct fs =>
      simp only [eqD] at h
      cases hx <;> try (cases h; done)
      rename_i as bs h1 h2
      cases hy <;> try (cases h; done)
      rename_i cs ds h3 h4
      simp only at h
      cases he : C.eqs.contains t with
      | false => rw [he] at h; cases h
      | true =>
        rw [he] at h
        simp only [cond_true] at h
        have hfs : P.fieldsOf t = fs := by simp [Program.fieldsOf, hu']
        rw [run_equalIn_struct w d t _ _ (by rw [hfs]; exact hu') (hE.stood t he), hfs]
        exact eqFields_sound hC (f := eqv C n) (d := d) (fun t x y x' y' b hx hy hb w => eqv_sound hC hE n d t x y x' y' b (by omega) hx hy hb w) fs.toList as cs ⟨bs⟩ ⟨ds⟩ b ⟨h1, h2⟩ ⟨h3, h4⟩ h w
    | _ => cases h

theorem eqv_agg {n : Nat} {t : TypeId} {xs ys : Array Value} {b : Bool} (h : eqv C (n + 1) t (.agg xs) (.agg ys) = some b) : C.eqs.contains t = true := by
  unfold eqv at h
  cases hu : C.under t with
  | none => rw [hu] at h; cases h
  | some dd =>
    rw [hu] at h
    simp only [Option.bind_some] at h
    cases dd <;> simp only [eqD] at h <;> try (cases h; done)
    cases he : C.eqs.contains t with
    | false => rw [he] at h; cases h
    | true => rfl

theorem eqv_nilIface {n : Nat} {t : TypeId} {y : Value} : eqv C (n + 1) t .nilIface y = none := by
  unfold eqv
  cases hu : C.under t with
  | none => rfl
  | some dd => cases dd <;> rfl

theorem intOp_sound {op : BinOp} {k : IntKind} {a b : Int} {v : Value} (h : intOp op k a b = some v) (w : World) (k' : IntKind) (t : TypeId) (hk : op = .shl ∨ op = .shr ∨ k' = k) :
    (binOp op t (.int k a) (.int k' b)).run P w = .ok v w := by
  have hsame : (op ≠ .shl ∧ op ≠ .shr) → k' = k := by
    rintro ⟨q1, q2⟩
    rcases hk with q | q | q
    · exact absurd q q1
    · exact absurd q q2
    · exact q
  cases op <;> simp only [intOp] at h
  case add => have := hsame (by simp); subst this; simp only [Option.some.injEq] at h; subst h; simp [binOp, Op.intArith, wrapF_eq]
  case sub => have := hsame (by simp); subst this; simp only [Option.some.injEq] at h; subst h; simp [binOp, Op.intArith, wrapF_eq]
  case mul => have := hsame (by simp); subst this; simp only [Option.some.injEq] at h; subst h; simp [binOp, Op.intArith, wrapF_eq]
  case quo =>
    have := hsame (by simp); subst this
    cases hb : decide (b = 0) with
    | true => rw [hb] at h; cases h
    | false =>
      rw [hb] at h
      simp only [cond_false, Option.some.injEq] at h
      subst h
      have := of_decide_eq_false hb
      simp [binOp, Op.intDiv, this, wrapF_eq]
  case rem =>
    have := hsame (by simp); subst this
    cases hb : decide (b = 0) with
    | true => rw [hb] at h; cases h
    | false =>
      rw [hb] at h
      simp only [cond_false, Option.some.injEq] at h
      subst h
      have := of_decide_eq_false hb
      simp [binOp, Op.intDiv, this]
  case eql => have := hsame (by simp); subst this; simp only [Option.some.injEq] at h; subst h; simp [binOp, Op.intCmp]; rfl
  case neq => have := hsame (by simp); subst this; simp only [Option.some.injEq] at h; subst h; simp [binOp, Op.intCmp]; rfl
  case lss => have := hsame (by simp); subst this; simp only [Option.some.injEq] at h; subst h; simp [binOp, Op.intCmp]
  case leq => have := hsame (by simp); subst this; simp only [Option.some.injEq] at h; subst h; simp [binOp, Op.intCmp]
  case gtr => have := hsame (by simp); subst this; simp only [Option.some.injEq] at h; subst h; simp [binOp, Op.intCmp]
  case geq => have := hsame (by simp); subst this; simp only [Option.some.injEq] at h; subst h; simp [binOp, Op.intCmp]
  case and => have := hsame (by simp); subst this; simp only [Option.some.injEq] at h; subst h; rw [bit_and]; simp [binOp, Op.intBits]
  case or => have := hsame (by simp); subst this; simp only [Option.some.injEq] at h; subst h; rw [bit_or]; simp [binOp, Op.intBits]
  case xor => have := hsame (by simp); subst this; simp only [Option.some.injEq] at h; subst h; rw [bit_xor]; simp [binOp, Op.intBits]
  case shl =>
    cases hb : decide (b < 0) with
    | true => rw [hb] at h; cases h
    | false =>
      rw [hb] at h
      simp only [cond_false, Option.some.injEq] at h
      subst h
      have := of_decide_eq_false hb
      simp [binOp, Op.shift, this, wrapF_eq]
  case shr =>
    cases hb : decide (b < 0) with
    | true => rw [hb] at h; cases h
    | false =>
      rw [hb] at h
      simp only [cond_false, Option.some.injEq] at h
      subst h
      have := of_decide_eq_false hb
      have hfd : a.fdiv (2 ^ (min b.toNat k.bits)) = a / (2 ^ (min b.toNat k.bits)) := Int.fdiv_eq_ediv_of_nonneg _ (Int.pow_nonneg (by decide))
      simp [binOp, Op.shift, this, hfd]
  all_goals cases h

theorem strOp_sound {op : BinOp} {a b : ByteArray} {v : Value} (h : strOp op a b = some v) (w : World) (t : TypeId) : (binOp op t (.string a) (.string b)).run P w = .ok v w := by
  have e1 : ∀ x : ByteArray, x.toList = x.data.toList := ByteArray.toList_eq
  cases op <;> simp only [strOp] at h <;> try (cases h; done)
  case add =>
    cases hb : Nat.ble (a.data.size + b.data.size) 4294967296 with
    | false => rw [hb] at h; cases h
    | true =>
      rw [hb] at h
      simp only [cond_true, Option.some.injEq] at h
      subst h
      have hle := Nat.le_of_ble_eq_true hb
      have hn : ¬ (((a.size + b.size : Nat) : Int) > IntKind.i64.max) := by
        have e : a.size + b.size = a.data.size + b.data.size := rfl
        rw [e]
        have e2 : IntKind.i64.max = 9223372036854775807 := by decide
        rw [e2]; omega
      have happ : a ++ b = ⟨⟨a.data.toList ++ b.data.toList⟩⟩ := by
        apply ByteArray.ext
        simp
      simp only [binOp, Op.stringOp]
      rw [if_neg hn, happ]
      rfl
  case eql => simp only [Option.some.injEq] at h; subst h; simp [binOp, Op.stringOp, e1, strEq_iff]
  case neq => simp only [Option.some.injEq] at h; subst h; simp [binOp, Op.stringOp, e1, strEq_iff]
  case lss => simp only [Option.some.injEq] at h; subst h; simp [binOp, Op.stringOp, e1, strLess_iff]
  case leq => simp only [Option.some.injEq] at h; subst h; simp only [binOp, Op.stringOp, e1, strLess_iff, bytesLess_total]; rfl
  case gtr => simp only [Option.some.injEq] at h; subst h; simp only [binOp, Op.stringOp, e1, strLess_iff, bytesLess_total, Bool.not_not]; rfl
  case geq => simp only [Option.some.injEq] at h; subst h; simp [binOp, Op.stringOp, e1, strLess_iff]

theorem intOp_rel {op : BinOp} {k : IntKind} {a b : Int} {v : Value} (h : intOp op k a b = some v) (μ : Mu) : VRel μ v v := by
  cases op <;> simp only [intOp] at h
  all_goals first
    | (cases h; done)
    | (simp only [Option.some.injEq] at h; subst h; first | exact .int _ _ | exact .bool _)
    | skip
  case quo => cases hb : decide (b = 0) <;> rw [hb] at h <;> first | (cases h; done) | (simp only [cond_false, Option.some.injEq] at h; subst h; exact .int _ _)
  case rem => cases hb : decide (b = 0) <;> rw [hb] at h <;> first | (cases h; done) | (simp only [cond_false, Option.some.injEq] at h; subst h; exact .int _ _)
  case shl => cases hb : decide (b < 0) <;> rw [hb] at h <;> first | (cases h; done) | (simp only [cond_false, Option.some.injEq] at h; subst h; exact .int _ _)
  case shr => cases hb : decide (b < 0) <;> rw [hb] at h <;> first | (cases h; done) | (simp only [cond_false, Option.some.injEq] at h; subst h; exact .int _ _)

theorem strOp_rel {op : BinOp} {a b : ByteArray} {v : Value} (h : strOp op a b = some v) (μ : Mu) : VRel μ v v := by
  cases op <;> simp only [strOp] at h
  all_goals first
    | (cases h; done)
    | (simp only [Option.some.injEq] at h; subst h; first | exact .string _ | exact .bool _)
    | skip
  case add => cases hb : Nat.ble (a.data.size + b.data.size) 4294967296 <;> rw [hb] at h <;> first | (cases h; done) | (simp only [cond_true, Option.some.injEq] at h; subst h; exact .string _)

theorem eqB_sound (hC : C.Ok P) (hE : C.EqOk P) (h : Rel B w0 μ m w) {op : BinOp} {t : TypeId} {xo yo : Operand} {x y x' y' v : Value} (hx : VRel μ x x') (hy : VRel μ y y') (hp : eqB C op t x y = some v)
    (hni : ∀ k a, x ≠ .int k a) (hns : ∀ s, x ≠ .string s) (hna : ∀ j i l, x ≠ .pointer (some ⟨j, i, some l⟩)) :
    OpRes P B w0 μ m (do eqGuard op t xo yo x' y'; binOp op t x' y') w v m := by
  obtain ⟨b, he, hop⟩ : ∃ b, eqv C 20 t x y = some b ∧ ((op = .eql ∧ v = .bool b) ∨ (op = .neq ∧ v = .bool (!b))) := by
    cases op <;> simp only [eqB] at hp <;> try (cases hp; done)
    all_goals
      cases he : eqv C 20 t x y with
      | none => rw [he] at hp; cases hp
      | some b =>
        rw [he] at hp
        simp only [Option.bind_some, Option.some.injEq] at hp
        first | exact ⟨b, rfl, .inl ⟨rfl, hp.symm⟩⟩ | exact ⟨b, rfl, .inr ⟨rfl, hp.symm⟩⟩
  have hrun := eqv_sound (P := P) hC hE 20 10000 t x y x' y' b (by omega) hx hy he w
  have hg : (eqGuard op t xo yo x' y').run P w = .ok () w := by
    cases hx with
    | agg h1 h2 =>
      cases hy with
      | agg h3 h4 => exact run_eqGuard_agg w op t xo yo _ _ (hE.guard t (eqv_agg he))
      | atom j => rcases Atoms.flat j with ⟨k, n, e⟩ | ⟨s, e⟩ <;> rw [e] <;> rcases hop with ⟨rfl, _⟩ | ⟨rfl, _⟩ <;> simp [eqGuard]
      | _ => rcases hop with ⟨rfl, _⟩ | ⟨rfl, _⟩ <;> simp [eqGuard]
    | nilIface => rw [eqv_nilIface] at he; cases he
    | atom j => exact absurd rfl (hna j 0 0)
    | _ => rcases hop with ⟨rfl, _⟩ | ⟨rfl, _⟩ <;> simp [eqGuard]
  have hb : (binOp op t x' y').run P w = .ok v w := by
    cases hx with
    | int k n => exact absurd rfl (hni k n)
    | string s => exact absurd rfl (hns s)
    | atom j => exact absurd rfl (hna j 0 0)
    | _ => rcases hop with ⟨rfl, rfl⟩ | ⟨rfl, rfl⟩ <;> simp [binOp, Op.equal, Op.maxDepth, hrun]
  refine ⟨v, w, ?_, .same h ?_⟩
  · simp only [Sem.run_bind, hg, Result.andThen_ok, hb]
  · rcases hop with ⟨_, rfl⟩ | ⟨_, rfl⟩ <;> exact .bool _

theorem fact_sound (hC : C.Ok P) (h : Rel B w0 μ m w) {op : BinOp} {t : TypeId} {xo yo : Operand} {x y x' y' v : Value} (hx : VRel μ x x') (hy : VRel μ y y') (hp : C.fact op x y = some v) :
    OpRes P B w0 μ m (do eqGuard op t xo yo x' y'; binOp op t x' y') w v m := by
  obtain ⟨x1, y1, r1, r2, hh⟩ := hC.facts _ _ _ _ hp
  rw [r1 μ x' hx, r2 μ y' hy]
  rcases hh with ⟨k, a, b, rfl, rfl, h1⟩ | ⟨s, u, rfl, rfl, h1⟩
  · have hg : (eqGuard op t xo yo (.int k a) (.int k b)).run P w = .ok () w := by cases op <;> simp [eqGuard]
    refine ⟨v, w, ?_, .same h (intOp_rel h1 μ)⟩
    simp only [Sem.run_bind, hg, Result.andThen_ok]
    exact intOp_sound h1 w k t (.inr (.inr rfl))
  · have hg : (eqGuard op t xo yo (.string s) (.string u)).run P w = .ok () w := by cases op <;> simp [eqGuard]
    refine ⟨v, w, ?_, .same h (strOp_rel h1 μ)⟩
    simp only [Sem.run_bind, hg, Result.andThen_ok]
    exact strOp_sound h1 w t

theorem binV_sound (hC : C.Ok P) (hE : C.EqOk P) (h : Rel B w0 μ m w) {op : BinOp} {t : TypeId} {xo yo : Operand} {x y x' y' v : Value} (hx : VRel μ x x') (hy : VRel μ y y') (hp : binV C op t x y = some v) :
    OpRes P B w0 μ m (do eqGuard op t xo yo x' y'; binOp op t x' y') w v m := by
  unfold binV at hp
  split at hp
  · -- numbers
    rename_i k a
    split at hp
    · rename_i k' b
      cases hx; cases hy
      have hg : (eqGuard op t xo yo (.int k a) (.int k' b)).run P w = .ok () w := by cases op <;> simp [eqGuard]
      obtain ⟨h1, h2⟩ : intOp op k a b = some v ∧ (op = .shl ∨ op = .shr ∨ k' = k) := by
        unfold intB at hp
        split at hp
        · exact ⟨hp, .inl rfl⟩
        · exact ⟨hp, .inr (.inl rfl)⟩
        · cases hd : decide (k = k') with
          | false => rw [hd] at hp; cases hp
          | true => rw [hd] at hp; exact ⟨hp, .inr (.inr (of_decide_eq_true hd).symm)⟩
      refine ⟨v, w, ?_, .same h (intOp_rel h1 μ)⟩
      simp only [Sem.run_bind, hg, Result.andThen_ok]
      exact intOp_sound h1 w k' t h2
    · exact fact_sound hC h hx hy hp
  · -- strings
    rename_i a
    split at hp
    · rename_i b
      cases hx; cases hy
      have hg : (eqGuard op t xo yo (.string a) (.string b)).run P w = .ok () w := by cases op <;> simp [eqGuard]
      refine ⟨v, w, ?_, .same h (strOp_rel hp μ)⟩
      simp only [Sem.run_bind, hg, Result.andThen_ok]
      exact strOp_sound hp w t
    · exact fact_sound hC h hx hy hp
  · exact fact_sound hC h hx hy hp
  · rename_i hni hns hna
    exact eqB_sound hC hE h hx hy hp (fun k a e => hni k a e) (fun s e => hns s e) (fun j i l e => hna j i l e)

end
end Go.Ev
