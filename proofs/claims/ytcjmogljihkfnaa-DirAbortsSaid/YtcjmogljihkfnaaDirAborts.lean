/- What the law DirAborts answers at the evaluator, for every host and every number of rounds; no condition. -/
import Derived.Test.YtcjmogljihkfnaaDirTell
import Derived.Test.YtcjmogljihkfnaaEvLoop
set_option linter.unusedVariables false
set_option linter.unusedSimpArgs false
namespace Go.Ev.Dir
open Go.Ev Go.Proofs Go.RowKit
set_option linter.unusedSectionVars false

def loopOf : Code → Code
  | .loop b => b
  | c => c
def blockOf : Code → Code
  | .block _ b => b
  | c => c

noncomputable def b8 : Code := bodyOf Try.f8
theorem b8_body : Try.f8.body = some b8 := by kernel_rfl
noncomputable def p8 : List Code := [sA b8, sA (sB b8), sA (sB (sB b8)), sA (sB (sB (sB b8)))]
noncomputable def r8 : Code := sB (sB (sB (sB b8)))
noncomputable def init8 : Code := sA (sA r8)
noncomputable def loop8 : Code := loopOf (blockOf (sB (sA r8)))
noncomputable def tail8 : Code := sB r8
theorem b8_eq : b8 = seqs p8 (.seq (.seq init8 (.block 0 (.loop loop8))) tail8) := by kernel_rfl

/-- the number of rounds (atom 0) is i -/
def factE (i : Nat) (op : BinOp) (x y : Value) : Option Value :=
  bif isAtom 0 x then (match y with
    | .int .i64 n => intOp op .i64 i n
    | _ => none)
  else bif isAtom 0 y then (match x with
    | .int .i64 n => intOp op .i64 n i
    | _ => none)
  else none
/-- it is more than i -/
def factL (i : Nat) (op : BinOp) (x y : Value) : Option Value := match op with
  | .lss => bif isInt i x && isAtom 0 y then some (.bool true) else none
  | _ => none
/-- r: the host (atom 1) is below 9; u: above 13; p: the rounds are below 0; q: above 30 -/
def factO (r u p q : Bool) (op : BinOp) (x y : Value) : Option Value := match op with
  | .lss => bif isAtom 1 x && isInt 9 y then some (.bool r) else bif isAtom 0 x && isInt 0 y then some (.bool p) else none
  | .gtr => bif isAtom 1 x && isInt 13 y then some (.bool u) else bif isAtom 0 x && isInt 30 y then some (.bool q) else none
  | _ => none
noncomputable def ctxF (fact : BinOp → Value → Value → Option Value) : Ctx := ctx.knows fact (fun _ => none) (fun _ => none)
noncomputable def callF (fact : BinOp → Value → Value → Option Value) : CallF := callN (ctxF fact) tell 14
noncomputable def tailOk (i : Nat) (s : Slots) (m : Mem) : Bool := outIs (saysTrue ctx Try.f8.results.toList) (runCode (ctxF (factE i)) (callF (factE i)) 8 tail8 s m)

noncomputable def inRange (to : Int) : Bool := match runL (ctxF (factO false false false false)) (callF (factO false false false false)) 8 p8 (initSlots [.int .i64 to, atom 0]) ⟨.leaf, 0⟩ with
  | some (s, m) => (match runCode (ctxF (factO false false false false)) (callF (factO false false false false)) 8 init8 s m with
    | some (.normal, s, m) => chk (fun i => ctxF (factE i)) (fun i => ctxF (factL i)) (fun i => callF (factE i)) (fun i => callF (factL i)) 8 loop8 0 tailOk 30 0 s m
    | _ => false)
  | none => false

theorem out_true (r u p q : Bool) (h : (r || u || p || q) = true) : isTrue (callN (ctxF (factO r u p q)) tell 15 8 [atom 1, atom 0] ⟨.leaf, 0⟩) = true := by
  cases r with
  | true => cases u <;> cases p <;> cases q <;> kernel_rfl
  | false => cases u with
    | true => cases p <;> cases q <;> kernel_rfl
    | false => cases p with
      | true => cases q <;> kernel_rfl
      | false => cases q with
        | true => kernel_rfl
        | false => cases h

@[instance_reducible] def intAtoms (T to : Int) : Atoms where
  val j := match j with
    | 0 => .int .i64 T
    | _ => .int .i64 to
  flat j := match j with
    | 0 => .inl ⟨_, _, rfl⟩
    | _ + 1 => .inl ⟨_, _, rfl⟩

theorem ctxE_ok (T : Nat) (to : Int) : letI := intAtoms T to; (ctxF (factE T)).Ok Try.prog := by
  letI := intAtoms T to
  refine Ctx.Ok.knows ctx_ok ?_ (fun j v h => by cases h) (fun j b h => by cases h)
  intro op x y v h
  unfold factE at h
  cases h1 : isAtom 0 x with
  | true =>
    rw [h1] at h
    have e := isAtom_spec h1
    subst e
    simp only [cond_true] at h
    split at h
    · exact ⟨_, _, Res.atom 0, Res.int _ _, .inl ⟨.i64, _, _, rfl, rfl, h⟩⟩
    · cases h
  | false =>
    rw [h1] at h
    simp only [cond_false] at h
    cases h2 : isAtom 0 y with
    | true =>
      rw [h2] at h
      have e := isAtom_spec h2
      subst e
      simp only [cond_true] at h
      split at h
      · exact ⟨_, _, Res.int _ _, Res.atom 0, .inl ⟨.i64, _, _, rfl, rfl, h⟩⟩
      · cases h
    | false => rw [h2] at h; cases h

theorem ctxL_ok (T : Nat) (to : Int) (i : Nat) (hi : i < T) : letI := intAtoms T to; (ctxF (factL i)).Ok Try.prog := by
  letI := intAtoms T to
  refine Ctx.Ok.knows ctx_ok ?_ (fun j v h => by cases h) (fun j b h => by cases h)
  intro op x y v h
  unfold factL at h
  split at h
  · cases h1 : isInt i x && isAtom 0 y with
    | false => rw [h1] at h; cases h
    | true =>
      rw [h1] at h
      simp only [Bool.and_eq_true] at h1
      have e := isInt_spec h1.1
      have e2 := isAtom_spec h1.2
      subst e e2
      refine ⟨_, _, Res.int _ _, Res.atom 0, .inl ⟨.i64, _, _, rfl, rfl, ?_⟩⟩
      have : decide ((i : Int) < (T : Int)) = true := by simp; omega
      simp only [cond_true] at h
      rw [← h]
      simp only [intOp, this]
  · cases h

theorem ctxO_ok (T to : Int) : letI := intAtoms T to; (ctxF (factO (decide (to < 9)) (decide (13 < to)) (decide (T < 0)) (decide (30 < T)))).Ok Try.prog := by
  letI := intAtoms T to
  refine Ctx.Ok.knows ctx_ok ?_ (fun j v h => by cases h) (fun j b h => by cases h)
  intro op x y v h
  unfold factO at h
  split at h
  · cases h1 : isAtom 1 x && isInt 9 y with
    | true =>
      rw [h1] at h
      simp only [Bool.and_eq_true] at h1
      have e := isAtom_spec h1.1
      have e2 := isInt_spec h1.2
      subst e e2
      exact ⟨_, _, Res.atom 1, Res.int _ _, .inl ⟨.i64, _, _, rfl, rfl, h⟩⟩
    | false =>
      rw [h1] at h
      simp only [cond_false] at h
      cases h2 : isAtom 0 x && isInt 0 y with
      | true =>
        rw [h2] at h
        simp only [Bool.and_eq_true] at h2
        have e := isAtom_spec h2.1
        have e2 := isInt_spec h2.2
        subst e e2
        exact ⟨_, _, Res.atom 0, Res.int _ _, .inl ⟨.i64, _, _, rfl, rfl, h⟩⟩
      | false => rw [h2] at h; cases h
  · cases h1 : isAtom 1 x && isInt 13 y with
    | true =>
      rw [h1] at h
      simp only [Bool.and_eq_true] at h1
      have e := isAtom_spec h1.1
      have e2 := isInt_spec h1.2
      subst e e2
      exact ⟨_, _, Res.atom 1, Res.int _ _, .inl ⟨.i64, _, _, rfl, rfl, h⟩⟩
    | false =>
      rw [h1] at h
      simp only [cond_false] at h
      cases h2 : isAtom 0 x && isInt 30 y with
      | true =>
        rw [h2] at h
        simp only [Bool.and_eq_true] at h2
        have e := isAtom_spec h2.1
        have e2 := isInt_spec h2.2
        subst e e2
        exact ⟨_, _, Res.atom 0, Res.int _ _, .inl ⟨.i64, _, _, rfl, rfl, h⟩⟩
      | false => rw [h2] at h; cases h
  · cases h

theorem p8_ok : p8.all (codeOk ctx masks Try.f8.ntmps 8) = true := by kernel_rfl
theorem init8_ok : codeOk ctx masks Try.f8.ntmps 8 init8 = true := by kernel_rfl
theorem loop8_ok : codeOk ctx masks Try.f8.ntmps 8 loop8 = true := by kernel_rfl
theorem tail8_ok : codeOk ctx masks Try.f8.ntmps 8 tail8 = true := by kernel_rfl

theorem snd [Atoms] {B : Nat} {w0 : World} {fact : BinOp → Value → Value → Option Value} (h : (ctxF fact).Ok Try.prog) {nt fid : Nat} {c : Code} (hc : codeOk ctx masks nt fid c = true) : Sound Try.prog B w0 nt (ctxF fact) (callF fact) fid c :=
  sound_of h (eqs_ok.knows _ _ _) mixed (M := masks) (fun f => calls_sound h (eqs_ok.knows _ _ _) mixed (funs_ok.knows _ _ _) (tell_ok _ _) 14 f) ((codeOk_knows _ _ _ _ _ _ _ _).trans hc)

theorem aborts_in (to : Int) (h9 : 9 ≤ to) (h13 : to ≤ 13) (T : Nat) (hT : T ≤ 30) (h : inRange to = true) (W : World) : Calls Try.prog 8 #[.int .i64 to, .int .i64 T] W fun e W' => e = .returned (.bool true) ∧ Below W.heap.size W W' := by
  letI := intAtoms T to
  have hO : (ctxF (factO false false false false)).Ok Try.prog := by
    have := ctxO_ok (T : Int) to
    rw [decide_eq_false (by omega), decide_eq_false (by omega), decide_eq_false (by omega), decide_eq_false (by omega)] at this
    exact this
  unfold inRange at h
  split at h
  · rename_i s1 m1 h1
    split at h
    · rename_i s2 m2 h2
      refine calls_of_wp Try.func8 b8_body ?_
      rw [b8_eq]
      refine wp_seqs (B := W.heap.size) (w0 := W) (nt := Try.f8.ntmps) (fun x hx => snd hO (List.all_eq_true.1 p8_ok x hx)) (Rel.start W)
        (init_rel (args := [.int .i64 to, atom 0]) (args' := [.int .i64 to, .int .i64 T]) (LRel.cons (.int _ _) (LRel.cons (.atom 0) .nil)) (Nat.le_of_ble_eq_true (by kernel_rfl))) h1 fun a1 w1 μ1 q1 q2 => ?_
      refine wp_seq (wp_seq (snd hO init8_ok q2 q1 h2 fun a2 w2 μ2 k1 k2 => ?_))
      refine wp_block (wp_loop_rounds 31 ?_)
      refine rounds_chk (snd (ctxE_ok T to) loop8_ok) (fun i hi => snd (ctxL_ok T to i hi) loop8_ok) ?_ 30 0 s2 m2 h (by omega) (by omega) 31 (by omega) k1 k2
      intro s3 m3 μ3 a3 w3 j1 j2 j3
      unfold tailOk at j3
      cases hr : runCode (ctxF (factE T)) (callF (factE T)) 8 tail8 s3 m3 with
      | none => rw [hr] at j3; cases j3
      | some r =>
        obtain ⟨e, s4, m4⟩ := r
        rw [hr] at j3
        exact snd (ctxE_ok T to) tail8_ok j2 j1 hr fun a4 w4 μ4 i1 i2 => post_says ctx_ok i1 i2 j3
    · cases h
  · cases h

theorem aborts_out (to T : Int) (h : to < 9 ∨ 13 < to ∨ T < 0 ∨ 30 < T) (W : World) : Calls Try.prog 8 #[.int .i64 to, .int .i64 T] W fun e W' => e = .returned (.bool true) ∧ Below W.heap.size W W' := by
  letI := intAtoms T to
  obtain ⟨m', hh⟩ := isTrue_spec (out_true (decide (to < 9)) (decide (13 < to)) (decide (T < 0)) (decide (30 < T)) (by simpa [or_assoc] using h))
  refine Ev.Calls.of_true (calls_sound (ctxO_ok T to) (eqs_ok.knows _ _ _) mixed (funs_ok.knows _ _ _) (tell_ok _ _) 15 8) (Rel.start W) (args := [atom 1, atom 0]) (LRel.cons (.atom 1) (LRel.cons (.atom 0) .nil)) hh fun v w q => ?_
  have := enter_call (P := Try.prog) Try.func8 (by kernel_rfl) b8_body #[.int .i64 to, .int .i64 T] W
  rw [this] at q
  cases q

end Go.Ev.Dir
