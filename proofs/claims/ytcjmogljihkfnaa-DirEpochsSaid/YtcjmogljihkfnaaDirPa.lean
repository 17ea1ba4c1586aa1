/- The law's last call, known(), is told: it answers true; no condition. -/
import Derived.Test.YtcjmogljihkfnaaDirCtx
import Derived.Test.YtcjmogljihkfnaaEvD
import Derived.Lib.Overlaps
set_option linter.unusedVariables false
set_option linter.unusedSimpArgs false
namespace Go.Ev.Dir
open Go.Ev Go.Proofs
set_option linter.unusedSectionVars false

/-- known(), told -/
def tell : FuncId → Option (List Value → Mem → Ret) := fun f => bif Nat.beq f 17 then some (told0 (.bool true)) else none

theorem known_true : isTrue (callN ctx (fun _ => none) 15 17 [] ⟨.leaf, 0⟩) = true := by kernel_rfl

theorem known_ok [Atoms] (B : Nat → Prop) (w0 : World) : CallOk Try.prog B w0 17 (told0 (.bool true)) :=
  let ⟨_, h⟩ := isTrue_spec known_true
  CallOk.closed (fun B w0 => calls_sound ctx_ok eqs_ok mixed funs_ok (fun f g h => by cases h) 15 17) h rfl B w0

theorem tell_ok [Atoms] (B : Nat → Prop) (w0 : World) : ∀ f g, tell f = some g → CallOk Try.prog B w0 f g := by
  intro f g h
  unfold tell at h
  cases hf : Nat.beq f 17 with
  | false => rw [hf] at h; cases h
  | true =>
    rw [hf] at h
    have e := Nat.eq_of_beq_eq_true hf
    subst e
    simp only [cond_true, Option.some.injEq] at h
    subst h
    exact known_ok B w0

end Go.Ev.Dir

namespace Go.Ev.Dir
open Go.Ev Go.Proofs

structure Z where
  id : Int
  lo : ByteArray
  hi : ByteArray
  own : Int
  ep : Int
  pend : Int
  to : Int
  key : ByteArray
  new : Int

def Z.cells (z : Z) : List Value := [.int .i64 z.id, .string z.lo, .string z.hi, .int .i64 z.own, .int .i64 z.ep, .int .i64 z.pend, .int .i64 z.to, .string z.key, .int .i64 z.new]
def flat : List Z → List Value
  | [] => []
  | z :: r => z.cells ++ flat r

theorem cells_length (z : Z) : z.cells.length = 9 := rfl
theorem flat_length : ∀ zs : List Z, (flat zs).length = 9 * zs.length
  | [] => rfl
  | z :: r => by simp only [flat, List.length_append, cells_length, flat_length r, List.length_cons]; omega

theorem flat_drop : ∀ (zs : List Z) (j : Nat), (flat zs).drop (9 * j) = flat (zs.drop j)
  | [], j => by simp [flat]
  | z :: r, 0 => rfl
  | z :: r, j + 1 => by
    have : 9 * (j + 1) = z.cells.length + 9 * j := by rw [cells_length]; omega
    rw [flat, this, List.drop_append, List.drop_eq_nil_of_le (by omega), List.nil_append, Nat.add_sub_cancel_left, flat_drop r j]
    rfl

theorem flat_take : ∀ (zs : List Z) (j : Nat), (flat zs).take (9 * j) = flat (zs.take j)
  | [], j => by simp [flat]
  | z :: r, 0 => rfl
  | z :: r, j + 1 => by
    have : 9 * (j + 1) = z.cells.length + 9 * j := by rw [cells_length]; omega
    rw [flat, this, List.take_append, List.take_of_length_le (by omega), Nat.add_sub_cancel_left, flat_take r j]
    rfl

theorem flat_append : ∀ (a b : List Z), flat (a ++ b) = flat a ++ flat b
  | [], _ => rfl
  | z :: r, b => by simp [flat, flat_append r b]

theorem loadN_zone {m : Mem} {b : Nat} {st : Stat} {zs : List Z} {rest : List Value} {j : Nat} {z : Z} (hm : m.get b = some (.cells (flat zs ++ rest) 9 st)) (hal : m.alive st = true) (hz : zs[j]? = some z) (f n : Nat) (hfn : f + n ≤ 9) :
    m.loadN b (0 + j * 9 + f) n = some ((z.cells.drop f).take n) := by
  have hj : j < zs.length := (List.getElem?_eq_some_iff.1 hz).1
  have hl := flat_length zs
  unfold Mem.loadN Mem.cells
  rw [hm]
  simp only [hal, cond_true, Option.bind_some]
  rw [show Nat.ble (0 + j * 9 + f + n) (flat zs ++ rest).length = true from Nat.ble_eq_true_of_le (by simp; omega)]
  simp only [cond_true]
  rw [show 0 + j * 9 + f = 9 * j + f from by omega, ← List.drop_drop, List.drop_append_of_le_length (by omega), flat_drop]
  have : zs.drop j = z :: zs.drop (j + 1) := by
    rw [List.drop_eq_getElem_cons hj]
    congr 1
    rw [List.getElem?_eq_getElem hj] at hz
    simpa using hz
  rw [this, flat, List.append_assoc, List.drop_append_of_le_length (by rw [cells_length]; omega), List.take_append_of_le_length (by simp [cells_length]; omega)]

def parse : Nat → List Value → Option (List Z)
  | 0, [] => some []
  | n + 1, .int .i64 a :: .string b :: .string c :: .int .i64 d :: .int .i64 e :: .int .i64 f :: .int .i64 g :: .string h :: .int .i64 i :: r => (parse n r).map fun l => ⟨a, b, c, d, e, f, g, h, i⟩ :: l
  | _, _ => none

theorem parse_flat : ∀ zs : List Z, parse zs.length (flat zs) = some zs
  | [] => rfl
  | z :: r => by
    show (parse r.length (flat r)).map (fun l => z :: l) = _
    rw [parse_flat r]
    rfl
theorem parse_spec : ∀ {n : Nat} {vs : List Value} {zs : List Z}, parse n vs = some zs → vs = flat zs ∧ zs.length = n := by
  intro n
  induction n with
  | zero =>
    intro vs zs h
    cases vs with
    | nil => simp only [parse, Option.some.injEq] at h; subst h; exact ⟨rfl, rfl⟩
    | cons v r => simp [parse] at h
  | succ n ih =>
    intro vs zs h
    unfold parse at h
    split at h
    · rename_i heq
      first | (cases heq; done) | (rename_i heq2; cases heq2)
    · rename_i k a b c d e f g h' i r heq
      cases heq
      obtain ⟨l, hl, rfl⟩ := Option.map_eq_some_iff.1 h
      obtain ⟨rfl, rfl⟩ := ih hl
      exact ⟨rfl, rfl⟩
    · cases h

/-- the zones that a slice in memory holds -/
def zonesAt (m : Mem) (x : Value) : Option (List Z) := match x with
  | .slice (some ⟨o, 0, none⟩) n c => (match m.get o with
    | some (.cells vs e st) => bif Nat.beq e 9 && m.alive st && !(n == 0 && c == UNK) && Nat.ble n 1000 then parse n (vs.take (9 * n)) else none
    | _ => none)
  | _ => none

theorem zonesAt_spec {m : Mem} {x : Value} {zs : List Z} (h : zonesAt m x = some zs) : ∃ o c vs st, x = .slice (some ⟨o, 0, none⟩) zs.length c ∧ m.get o = some (.cells vs 9 st) ∧ m.alive st = true ∧ (zs.length == 0 && c == UNK) = false ∧ zs.length ≤ 1000 ∧
    vs.take (9 * zs.length) = flat zs := by
  unfold zonesAt at h
  split at h
  · rename_i o n c
    split at h
    · rename_i vs e st hm
      cases hc : (Nat.beq e 9 && m.alive st && !(n == 0 && c == UNK) && Nat.ble n 1000) with
      | false => rw [hc] at h; cases h
      | true =>
        rw [hc] at h
        simp only [cond_true] at h
        obtain ⟨h1, h2⟩ := parse_spec h
        subst h2
        simp only [Bool.and_eq_true, Bool.not_eq_true'] at hc
        obtain ⟨⟨⟨a1, a2⟩, a3⟩, a4⟩ := hc
        have := Nat.eq_of_beq_eq_true a1
        subst this
        exact ⟨o, c, vs, st, rfl, hm, a2, a3, Nat.le_of_ble_eq_true a4, h1⟩
    · cases h
  · cases h

theorem zonesAt_flat {m : Mem} {o c : Nat} {zs : List Z} {rest : List Value} {st : Stat} (hm : m.get o = some (.cells (flat zs ++ rest) 9 st)) (hal : m.alive st = true) (hc : (zs.length == 0 && c == UNK) = false) (hn : zs.length ≤ 1000) :
    zonesAt m (.slice (some ⟨o, 0, none⟩) zs.length c) = some zs := by
  unfold zonesAt
  simp only [hm]
  rw [hal, hc, show Nat.ble zs.length 1000 = true from Nat.ble_eq_true_of_le hn]
  simp only [show Nat.beq 9 9 = true from rfl, Bool.not_false, Bool.and_true, cond_true]
  rw [List.take_append_of_le_length (by rw [flat_length]; omega), ← flat_length, List.take_length]
  exact parse_flat zs

/-- a row of zones under other names -/
theorem LRen.zones [Atoms] {σ : Nat → Nat} {k : Nat} (zs : List Z) : LRen σ k (flat zs) (flat zs) := by
  refine LRen.same ?_
  induction zs with
  | nil => intro u hu; cases hu
  | cons z r ih =>
    intro u hu
    rcases List.mem_append.1 hu with h | h
    · unfold Z.cells at h
      simp only [List.mem_cons, List.not_mem_nil, or_false] at h
      rcases h with rfl | rfl | rfl | rfl | rfl | rfl | rfl | rfl | rfl <;> rfl
    · exact ih u h

/-- a zone of a row, read whole -/
theorem step_loadZ {call : CallF} {ops : Array Oper} {s : Slots} {m : Mem} {o : Oper} {a : Operand} {b j : Nat} {st : Stat} {zs : List Z} {rest : List Value} {z : Z} (hw : wanted ops s o = some true) (ho : o.op = .load 39 a) (ha : s.eval a = ptr b (0 + j * 9))
    (hm : m.get b = some (.cells (flat zs ++ rest) 9 st)) (hal : m.alive st = true) (hz : zs[j]? = some z) : stepOp ctx call ops o s m = some (s.put o.dst (.agg ⟨z.cells⟩), m) :=
  step_load (ti := ⟨true, 9⟩) hw ho ha (by kernel_rfl) (loadN_zone hm hal hz 0 9 (by omega)) rfl

theorem drop_at {α : Type} {l : List α} {i : Nat} {z : α} (hz : l[i]? = some z) : l.drop i = z :: l.drop (i + 1) := by
  have hlt : i < l.length := (List.getElem?_eq_some_iff.1 hz).1
  rw [List.drop_eq_getElem_cons hlt]
  congr 1
  rw [List.getElem?_eq_getElem hlt] at hz
  simpa using hz

theorem app_nil {m : Mem} {b : Nat} {l : List Value} {e : Nat} {st : Stat} (h : m.get b = some (.cells l e st)) : m.get b = some (.cells (l ++ []) e st) := by rw [List.append_nil]; exact h

end Go.Ev.Dir

namespace Go.Ev.Dir
open Go.Ev Go.Proofs
set_option linter.unusedSectionVars false

def findN : List Z → Int → Nat → Int
  | [], _, _ => -1
  | z :: r, id, i => bif decide (z.id = id) then (i : Int) else findN r id (i + 1)
def findM (zs : List Z) (id : Int) : Int := findN zs id 0

def mF (zs : List Z) (id : Int) : Mem := ⟨.node (some (.cells (flat zs) 9 .ro)) (.node (some (.cells [.int .i64 id] 1 .ro)) .leaf .leaf) .leaf, 2⟩
def sliceF (n c : Nat) : Value := .slice (some ⟨0, 0, none⟩) n c
def funF : Value := .func (.func 74) ⟨[]⟩ ⟨[ptr 1 0]⟩

noncomputable def b73 : Code := bodyOf Try.f73
theorem b73_body : Try.f73.body = some b73 := by kernel_rfl
noncomputable def r73_0 : Array Oper := rOps (sA b73)
noncomputable def r73_1 : Array Oper := rOps (sA (sA (sB b73)))
noncomputable def l73 : Code := loopOf (blockOf (sB (sA (sB b73))))
noncomputable def r73_2 : Array Oper := rOps (sA l73)
noncomputable def i73 : Code := blockOf (sA (sB (sB l73)))
noncomputable def r73_3 : Array Oper := rOps (sA i73)
noncomputable def r73_4 : Array Oper := rOps (sA (sB i73))
noncomputable def r73_5 : Array Oper := rOps (sA (ifA (sB (sB i73))))
noncomputable def r73_6 : Array Oper := rOps (sB (sB (sB l73)))
noncomputable def r73_7 : Array Oper := rOps (sA (sB (sB b73)))

noncomputable def body73 : Code := .seq (.region 2 r73_2 false) (.seq (.cond (.tmp 9) .skip (.exit 0)) (.seq (.block 1 (.seq (.region 3 r73_3 false) (.seq (.region 4 r73_4 false) (.cond (.tmp 16) (.seq (.region 5 r73_5 false) .ret) .skip)))) (.region 6 r73_6 false)))
theorem b73_eq : b73 = .seq (.region 0 r73_0 false) (.seq (.seq (.region 1 r73_1 false) (.block 0 (.loop body73))) (.seq (.region 7 r73_7 false) .ret)) := by kernel_rfl

noncomputable def callF73 : CallF := callN ctx (fun _ => none) 4
theorem snd73 [Atoms] {B : Nat → Prop} {w0 : World} {nt fid : Nat} {c : Code} (hc : codeOk ctx masks nt fid c = true) : Sound Try.prog B w0 nt ctx callF73 fid c :=
  sound_of ctx_ok eqs_ok mixed (M := masks) (fun f => calls_sound ctx_ok eqs_ok mixed funs_ok (fun f g h => by cases h) 4 f) hc

theorem r73_4_3 : r73_4.toList.drop 3 = (r73_4.toList.drop 3).headD default :: r73_4.toList.drop 4 := by kernel_rfl
theorem r73_4_4 : r73_4.toList.drop 4 = (r73_4.toList.drop 4).headD default :: r73_4.toList.drop 5 := by kernel_rfl

noncomputable def s73 (zs : List Z) (c i : Nat) : Slots := mkS 19 [(0, sliceF zs.length c), (1, funF), (7, .int .i64 zs.length), (8, .int .i64 i)]

theorem ret73 : Try.f73.results.toList = [.tmp 4] := by kernel_rfl

theorem ren_funF [Atoms] {k : Nat} {σ : Nat → Nat} {fid b i : Nat} (hi : i < k) (hb : σ i = b) : VRen σ k (.func (.func fid) ⟨[]⟩ ⟨[ptr i 0]⟩) (.func (.func fid) ⟨[]⟩ ⟨[ptr b 0]⟩) := by
  intro μ v hv
  cases hv with
  | func h1 h2 h3 h4 =>
    refine .func h1 (fun i u v hu => by simp at hu) h3 fun j u v hu hv => ?_
    have hu' : u = ptr i 0 ∧ j = 0 := by
      cases j with
      | zero => simpa using hu.symm
      | succ j => simp at hu
    obtain ⟨rfl, rfl⟩ := hu'
    exact VRen.ptr hi hb μ v (h4 0 _ v rfl hv)

/-- a slot's value, known by a run -/
theorem ren_at [Atoms] {σ : Nat → Nat} {k : Nat} {u1 u v : Value} (h : u = v) (hr : VRen σ k u1 v) : VRen σ k u1 u := by subst h; exact hr

theorem keeps73 [Atoms] {m : Mem} {zs : List Z} {id : Int} (h0 : m.get 0 = some (.cells (flat zs) 9 .ro)) (h1 : m.get 1 = some (.cells [.int .i64 id] 1 .ro)) : Keeps (fun i => i) m (mF zs id) where
  inj i j _ _ h := h
  obj i hi := by
    have : i = 0 ∨ i = 1 := by have : i < 2 := hi; omega
    rcases this with rfl | rfl
    · exact ⟨_, _, 9, .ro, rfl, h0, .inl rfl, by rw [List.take_length]; exact LRen.zones zs⟩
    · exact ⟨_, _, 1, .ro, rfl, h1, .inl rfl, LRen.cons (VRen.int _ _) .nil⟩

def Inv73 (zs : List Z) (id : Int) (c : Nat) (n : Nat) (s : Slots) (m : Mem) : Prop :=
  ∃ i, i ≤ zs.length ∧ n = zs.length - i ∧ s = s73 zs c i ∧ m = mF zs id ∧ findM zs id = findN (zs.drop i) id i

theorem hf73 [Atoms] (zs : List Z) (id : Int) (c : Nat) (hn : zs.length ≤ 1000) (hc : (zs.length == 0 && c == UNK) = false) : HF Try.prog ctx Try.f73 [sliceF zs.length c, funF] (mF zs id) fun v _ => v = .int .i64 (findM zs id) := by
  intro B w0
  show HL _ _ _ _ b73 _ _ _
  rw [b73_eq]
  refine HL.seq (HL.reg (C := ctx) (call := callF73) (fid := 73) (snd73 (by kernel_rfl)) (OpsP.rest (by kernel_rfl) ?_))
  refine HL.seq (HL.seq (HL.reg (C := ctx) (call := callF73) (fid := 73) (snd73 (by kernel_rfl)) (OpsP.rest (by kernel_rfl) ?_)))
  refine HL.weak (Weak.ren (m1 := mF zs id) (l := [(0, sliceF zs.length c), (1, funF), (7, .int .i64 zs.length), (8, .int .i64 ((0 : Nat) : Int))]) (keeps73 (by kernel_rfl) (by kernel_rfl))
    ⟨ren_at (v := sliceF zs.length c) (by kernel_rfl) (VRen.slice (show 0 < 2 by decide) rfl hc), ren_at (v := funF) (by kernel_rfl) (ren_funF (show 1 < 2 by decide) rfl),
      ren_at (v := .int .i64 zs.length) (by kernel_rfl) (VRen.int _ _), ren_at (v := .int .i64 ((0 : Nat) : Int)) (by kernel_rfl) (VRen.int _ _), trivial⟩) ?_
  refine HL.blockLoop (Inv73 zs id c) ?_ (n := zs.length) ⟨0, by omega, by omega, rfl, rfl, rfl⟩
  rintro n s m ⟨i, hi, rfl, rfl, rfl, hf⟩
  refine HL.seq (HL.reg (C := ctx) (call := callF73) (fid := 73) (snd73 (by kernel_rfl)) (OpsP.rest (by kernel_rfl) ?_))
  refine HL.seq (HL.cond (t := decide ((i : Int) < (zs.length : Int))) (by kernel_rfl) rfl (fun ht => HL.skip ?_) (fun ht => HL.exit ⟨rfl, ?_⟩))
  · have hlt : i < zs.length := by simpa using ht
    obtain ⟨z, hz⟩ : ∃ z, zs[i]? = some z := ⟨zs[i], List.getElem?_eq_getElem hlt⟩
    have hdrop := drop_at hz
    refine HL.seq (HL.block (HL.seq (HL.reg (C := ctx) (call := callF73) (fid := 73) (snd73 (by kernel_rfl)) (OpsP.rest (by kernel_rfl) ?_))))
    refine HL.seq (HL.reg (C := ctx) (call := callF73) (fid := 73) (snd73 (by kernel_rfl)) (OpsP.take 3 (by kernel_rfl) ?_))
    refine OpsP.stepAt r73_4_3 (step_indexAddr (x := .tmp 12) (i := .tmp 13) (t := 28) (e := 39) (z := 9) (j := i) (n := zs.length) (c := c) (b := 0) (off := 0) (k := .i64) (iv := i) (by kernel_rfl) (by kernel_rfl) (by kernel_rfl) (by kernel_rfl) (by kernel_rfl) (by kernel_rfl) rfl hlt) ?_
    refine OpsP.stepAt r73_4_4 (step_loadZ (a := .tmp 14) (b := 0) (j := i) (st := .ro) (by kernel_rfl) (by kernel_rfl) (by kernel_rfl) (app_nil (by kernel_rfl)) rfl hz) ?_
    refine OpsP.rest (by kernel_rfl) ?_
    refine HL.cond (t := decide (z.id = id)) (by kernel_rfl) rfl (fun hb => ?_) (fun hb => HL.skip ?_)
    · refine HL.seq (HL.reg (C := ctx) (call := callF73) (fid := 73) (snd73 (by kernel_rfl)) (OpsP.rest (by kernel_rfl) (HL.ret ?_)))
      exact Ends.ret1 (C := ctx) (R := fun v _ => v = .int .i64 (findM zs id)) ret73 (v := .int .i64 i) (by kernel_rfl) (by rw [hf, hdrop, findN, hb]; rfl)
    · refine HL.post (HL.reg (C := ctx) (call := callF73) (fid := 73) (Q := fun e s m => e = .normal ∧ s.get 0 = sliceF zs.length c ∧ s.get 1 = funF ∧ s.get 7 = .int .i64 zs.length ∧ s.get 8 = .int .i64 (wrapF .i64 (i + 1)) ∧ m.get 0 = some (.cells (flat zs) 9 .ro) ∧ m.get 1 = some (.cells [.int .i64 id] 1 .ro)) (snd73 (by kernel_rfl)) (OpsP.rest (by kernel_rfl) ⟨rfl, by kernel_rfl, by kernel_rfl, by kernel_rfl, by kernel_rfl, by kernel_rfl, by kernel_rfl⟩)) ?_
      rintro e s' m' ⟨rfl, e0, e1, e7, e8, g0, g1⟩
      rw [wrapF_small (by omega) (by omega)] at e8
      refine ⟨s73 zs c (i + 1), mF zs id, Weak.ren (keeps73 g0 g1) ⟨ren_at e0 (VRen.slice (show 0 < 2 by decide) rfl hc), ren_at e1 (ren_funF (show 1 < 2 by decide) rfl), ren_at e7 (VRen.int _ _), ren_at e8 (VRen.int _ _), trivial⟩,
        zs.length - (i + 1), by omega, i + 1, by omega, rfl, rfl, rfl, ?_⟩
      rw [hf, hdrop, findN, hb]
      rfl
  · have hge : zs.length ≤ i := by simpa using ht
    have hm1 : findM zs id = -1 := by rw [hf, List.drop_eq_nil_of_le hge]; rfl
    refine HL.seq (HL.reg (C := ctx) (call := callF73) (fid := 73) (snd73 (by kernel_rfl)) (OpsP.rest (by kernel_rfl) (HL.ret ?_)))
    exact Ends.ret1 (C := ctx) (R := fun v _ => v = .int .i64 (findM zs id)) ret73 (v := .int .i64 (-1)) (by kernel_rfl) (by rw [hm1])

/-- what IndexFunc is told to answer -/
def T73 (args : List Value) (m : Mem) : Option Value := match args with
  | [x, .func (.func 74) ⟨[]⟩ ⟨[.pointer (some ⟨b, 0, none⟩)]⟩] => (match m.get b with
    | some (.cells (.int .i64 id :: _) e st) => bif Nat.beq e 1 && m.alive st then (zonesAt m x).bind fun zs => some (.int .i64 (findM zs id)) else none
    | _ => none)
  | _ => none

theorem ok73 [Atoms] (B : Nat → Prop) (w0 : World) : CallOk Try.prog B w0 73 (toldR T73) := by
  refine CallOk.reads ctx_ok (P := Try.prog) (C := ctx) Try.func73 (by kernel_rfl) b73_body fun args m v h => ?_
  unfold T73 at h
  split at h
  · rename_i x b
    split at h
    · rename_i id r e st hb
      cases hc : (Nat.beq e 1 && m.alive st) with
      | false => rw [hc] at h; cases h
      | true =>
        rw [hc] at h
        simp only [cond_true] at h
        simp only [Bool.and_eq_true] at hc
        have he := Nat.eq_of_beq_eq_true hc.1
        subst he
        obtain ⟨zs, hz, h⟩ := Option.bind_eq_some_iff.1 h
        simp only [Option.some.injEq] at h
        subst h
        obtain ⟨o, c, vs, st2, rfl, ho, hal, hcc, hn, hfl⟩ := zonesAt_spec hz
        refine ⟨Free.flat rfl, fun i => if i = 0 then o else b, mF zs id, [sliceF zs.length c, funF], ?_, ?_, Nat.le_of_ble_eq_true (by kernel_rfl), hf73 zs id c hn hcc⟩
        · intro i hi
          have : i = 0 ∨ i = 1 := by have : i < 2 := hi; omega
          rcases this with rfl | rfl
          · exact ⟨_, vs, 9, st2, rfl, ho, hal, by rw [flat_length, hfl]; exact LRen.zones zs⟩
          · exact ⟨_, _, 1, st, rfl, hb, hc.2, LRen.cons (VRen.int _ _) .nil⟩
        · exact LRen.cons (VRen.slice (show 0 < 2 by decide) rfl hcc) (LRen.cons (ren_funF (show 1 < 2 by decide) rfl) .nil)
    · cases h
  · cases h

end Go.Ev.Dir

namespace Go.Ev.Dir
open Go.Ev Go.Proofs
set_option linter.unusedSectionVars false

def cnt : List Z → Int → Nat
  | [], _ => 0
  | z :: r, k => bif decide (z.pend = k) then cnt r k + 1 else cnt r k
theorem cnt_append : ∀ (a b : List Z) (k : Int), cnt (a ++ b) k = cnt a k + cnt b k
  | [], b, k => by simp [cnt]
  | z :: r, b, k => by
    simp only [List.cons_append, cnt, cnt_append r b k]
    cases decide (z.pend = k) <;> simp only [cond_true, cond_false] <;> omega
theorem cnt_le : ∀ (a : List Z) (k : Int), cnt a k ≤ a.length
  | [], k => Nat.le_refl _
  | z :: r, k => by
    have := cnt_le r k
    simp only [cnt, List.length_cons]
    cases decide (z.pend = k) <;> simp only [cond_true, cond_false] <;> omega
theorem take_at {α : Type} {l : List α} {i : Nat} {z : α} (hz : l[i]? = some z) : l.take (i + 1) = l.take i ++ [z] := by
  rw [List.take_add_one, hz]; rfl

/-- a Dir in memory, read alone -/
def dirCells (v nx : Int) (zo n c : Nat) (h : Value) : List Value := [.int .i64 v, .int .i64 nx, .slice (some ⟨zo, 0, none⟩) n c, h]
def mD (v nx : Int) (zs : List Z) (c : Nat) : Mem := ⟨.node (some (.cells (dirCells v nx 1 zs.length c junk) 4 .ro)) (.node (some (.cells (flat zs) 9 .ro)) .leaf .leaf) .leaf, 2⟩

noncomputable def b76 : Code := bodyOf Try.f76
theorem b76_body : Try.f76.body = some b76 := by kernel_rfl
noncomputable def x76 : Code := sA (sB (sB b76))
noncomputable def l76 : Code := loopOf (blockOf (sB x76))
noncomputable def i76 : Code := blockOf (sA (sB (sB l76)))
noncomputable def r76_0 : Array Oper := rOps (sA b76)
noncomputable def r76_1 : Array Oper := rOps (sA (sB b76))
noncomputable def r76_2 : Array Oper := rOps (sA x76)
noncomputable def r76_3 : Array Oper := rOps (sA l76)
noncomputable def r76_4 : Array Oper := rOps (sA i76)
noncomputable def r76_5 : Array Oper := rOps (sA (sB i76))
noncomputable def r76_6 : Array Oper := rOps (ifA (sB (sB i76)))
noncomputable def r76_7 : Array Oper := rOps (sB (sB (sB l76)))
noncomputable def r76_8 : Array Oper := rOps (sA (sB (sB (sB b76))))
noncomputable def body76 : Code := .seq (.region 3 r76_3 false) (.seq (.cond (.tmp 15) .skip (.exit 0)) (.seq (.block 1 (.seq (.region 4 r76_4 false) (.seq (.region 5 r76_5 false) (.cond (.tmp 21) (.region 6 r76_6 false) .skip)))) (.region 7 r76_7 false)))
theorem b76_eq : b76 = .seq (.region 0 r76_0 false) (.seq (.region 1 r76_1 false) (.seq (.seq (.region 2 r76_2 false) (.block 0 (.loop body76))) (.seq (.region 8 r76_8 false) .ret))) := by kernel_rfl
theorem ret76 : Try.f76.results.toList = [.tmp 4] := by kernel_rfl
theorem r76_4_0 : r76_4.toList = r76_4.toList.headD default :: r76_4.toList.drop 1 := by kernel_rfl
theorem r76_4_1 : r76_4.toList.drop 1 = (r76_4.toList.drop 1).headD default :: r76_4.toList.drop 2 := by kernel_rfl

noncomputable def s76 (zs : List Z) (k : Int) (c i q : Nat) : Slots := mkS 26 [(1, .int .i64 k), (5, .int .i64 q), (12, .slice (some ⟨1, 0, none⟩) zs.length c), (13, .int .i64 zs.length), (14, .int .i64 i)]

theorem keeps76 [Atoms] {m : Mem} {v nx : Int} {zs : List Z} {c : Nat} (hc : (zs.length == 0 && c == UNK) = false) (h0 : m.get 0 = some (.cells (dirCells v nx 1 zs.length c junk) 4 .ro)) (h1 : m.get 1 = some (.cells (flat zs) 9 .ro)) : Keeps (fun i => i) m (mD v nx zs c) where
  inj i j _ _ h := h
  obj i hi := by
    have : i = 0 ∨ i = 1 := by have : i < 2 := hi; omega
    rcases this with rfl | rfl
    · exact ⟨_, _, 4, .ro, rfl, h0, .inl rfl, .cons (VRen.int _ _) (.cons (VRen.int _ _) (.cons (VRen.slice (show 1 < 2 by decide) rfl hc) (.cons (VRen.junk _) .nil)))⟩
    · exact ⟨_, _, 9, .ro, rfl, h1, .inl rfl, by rw [List.take_length]; exact LRen.zones zs⟩

def Inv76 (v nx : Int) (zs : List Z) (k : Int) (c : Nat) (n : Nat) (s : Slots) (m : Mem) : Prop :=
  ∃ i, i ≤ zs.length ∧ n = zs.length - i ∧ s = s76 zs k c i (cnt (zs.take i) k) ∧ m = mD v nx zs c

theorem hf76 [Atoms] (v nx : Int) (zs : List Z) (k : Int) (c : Nat) (hn : zs.length ≤ 1000) (hc : (zs.length == 0 && c == UNK) = false) : HF Try.prog ctx Try.f76 [ptr 0 0, .int .i64 k] (mD v nx zs c) fun u _ => u = .int .i64 (cnt zs k) := by
  intro B w0
  show HL _ _ _ _ b76 _ _ _
  rw [b76_eq]
  refine HL.seq (HL.reg (C := ctx) (call := callF73) (fid := 76) (snd73 (by kernel_rfl)) (OpsP.rest (by kernel_rfl) ?_))
  refine HL.seq (HL.reg (C := ctx) (call := callF73) (fid := 76) (snd73 (by kernel_rfl)) (OpsP.rest (by kernel_rfl) ?_))
  refine HL.seq (HL.seq (HL.reg (C := ctx) (call := callF73) (fid := 76) (snd73 (by kernel_rfl)) (OpsP.rest (by kernel_rfl) ?_)))
  refine HL.weak (Weak.ren (m1 := mD v nx zs c) (l := [(1, .int .i64 k), (5, .int .i64 ((0 : Nat) : Int)), (12, .slice (some ⟨1, 0, none⟩) zs.length c), (13, .int .i64 zs.length), (14, .int .i64 ((0 : Nat) : Int))]) (keeps76 hc (by kernel_rfl) (by kernel_rfl))
    ⟨ren_at (v := .int .i64 k) (by kernel_rfl) (VRen.int _ _), ren_at (v := .int .i64 ((0 : Nat) : Int)) (by kernel_rfl) (VRen.int _ _), ren_at (v := .slice (some ⟨1, 0, none⟩) zs.length c) (by kernel_rfl) (VRen.slice (show 1 < 2 by decide) rfl hc),
      ren_at (v := .int .i64 zs.length) (by kernel_rfl) (VRen.int _ _), ren_at (v := .int .i64 ((0 : Nat) : Int)) (by kernel_rfl) (VRen.int _ _), trivial⟩) ?_
  refine HL.blockLoop (Inv76 v nx zs k c) ?_ (n := zs.length) ⟨0, by omega, by omega, rfl, rfl⟩
  rintro n s m ⟨i, hi, rfl, rfl, rfl⟩
  obtain ⟨q, hq⟩ : ∃ q, cnt (zs.take i) k = q := ⟨_, rfl⟩
  have hql : q ≤ i := by have := cnt_le (zs.take i) k; rw [hq] at this; simp at this; omega
  rw [hq]
  refine HL.seq (HL.reg (C := ctx) (call := callF73) (fid := 76) (snd73 (by kernel_rfl)) (OpsP.rest (by kernel_rfl) ?_))
  refine HL.seq (HL.cond (t := decide ((i : Int) < (zs.length : Int))) (by kernel_rfl) rfl (fun ht => HL.skip ?_) (fun ht => HL.exit ⟨rfl, ?_⟩))
  · have hlt : i < zs.length := by simpa using ht
    obtain ⟨z, hz⟩ : ∃ z, zs[i]? = some z := ⟨zs[i], List.getElem?_eq_getElem hlt⟩
    refine HL.seq (HL.block (HL.seq (HL.reg (C := ctx) (call := callF73) (fid := 76) (snd73 (by kernel_rfl)) ?_)))
    refine OpsP.stepAt r76_4_0 (step_indexAddr (x := .tmp 12) (i := .tmp 14) (t := 28) (e := 39) (z := 9) (j := i) (n := zs.length) (c := c) (b := 1) (off := 0) (k := .i64) (iv := i) (by kernel_rfl) (by kernel_rfl) (by kernel_rfl) (by kernel_rfl) (by kernel_rfl) (by kernel_rfl) rfl hlt) ?_
    refine OpsP.stepAt r76_4_1 (step_loadZ (a := .tmp 16) (b := 1) (j := i) (st := .ro) (by kernel_rfl) (by kernel_rfl) (by kernel_rfl) (app_nil (by kernel_rfl)) rfl hz) ?_
    refine OpsP.rest (by kernel_rfl) ?_
    refine HL.seq (HL.reg (C := ctx) (call := callF73) (fid := 76) (snd73 (by kernel_rfl)) (OpsP.rest (by kernel_rfl) ?_))
    have hcs : cnt (zs.take (i + 1)) k = bif decide (z.pend = k) then q + 1 else q := by
      rw [take_at hz, cnt_append, hq]
      simp only [cnt]
      cases decide (z.pend = k) <;> rfl
    refine HL.cond (t := decide (z.pend = k)) (by kernel_rfl) rfl (fun hb => ?_) (fun hb => HL.skip ?_)
    · refine HL.reg (C := ctx) (call := callF73) (fid := 76) (snd73 (by kernel_rfl)) (OpsP.rest (by kernel_rfl) ?_)
      refine HL.post (HL.reg (C := ctx) (call := callF73) (fid := 76) (Q := fun e s m => e = .normal ∧ s.get 1 = .int .i64 k ∧ s.get 5 = .int .i64 (wrapF .i64 (q + 1)) ∧ s.get 12 = .slice (some ⟨1, 0, none⟩) zs.length c ∧ s.get 13 = .int .i64 zs.length ∧ s.get 14 = .int .i64 (wrapF .i64 (i + 1)) ∧
        m.get 0 = some (.cells (dirCells v nx 1 zs.length c junk) 4 .ro) ∧ m.get 1 = some (.cells (flat zs) 9 .ro)) (snd73 (by kernel_rfl)) (OpsP.rest (by kernel_rfl) ⟨rfl, by kernel_rfl, by kernel_rfl, by kernel_rfl, by kernel_rfl, by kernel_rfl, by kernel_rfl, by kernel_rfl⟩)) ?_
      rintro e s' m' ⟨rfl, e1, e5, e12, e13, e14, g0, g1⟩
      rw [wrapF_small (by omega) (by omega)] at e5 e14
      refine ⟨s76 zs k c (i + 1) (cnt (zs.take (i + 1)) k), mD v nx zs c, Weak.ren (keeps76 hc g0 g1) ⟨ren_at e1 (VRen.int _ _), ren_at e5 (by rw [hcs, hb]; exact VRen.int _ _), ren_at e12 (VRen.slice (show 1 < 2 by decide) rfl hc), ren_at e13 (VRen.int _ _), ren_at e14 (VRen.int _ _), trivial⟩,
        zs.length - (i + 1), by omega, i + 1, by omega, rfl, rfl, rfl⟩
    · refine HL.post (HL.reg (C := ctx) (call := callF73) (fid := 76) (Q := fun e s m => e = .normal ∧ s.get 1 = .int .i64 k ∧ s.get 5 = .int .i64 q ∧ s.get 12 = .slice (some ⟨1, 0, none⟩) zs.length c ∧ s.get 13 = .int .i64 zs.length ∧ s.get 14 = .int .i64 (wrapF .i64 (i + 1)) ∧
        m.get 0 = some (.cells (dirCells v nx 1 zs.length c junk) 4 .ro) ∧ m.get 1 = some (.cells (flat zs) 9 .ro)) (snd73 (by kernel_rfl)) (OpsP.rest (by kernel_rfl) ⟨rfl, by kernel_rfl, by kernel_rfl, by kernel_rfl, by kernel_rfl, by kernel_rfl, by kernel_rfl, by kernel_rfl⟩)) ?_
      rintro e s' m' ⟨rfl, e1, e5, e12, e13, e14, g0, g1⟩
      rw [wrapF_small (by omega) (by omega)] at e14
      refine ⟨s76 zs k c (i + 1) (cnt (zs.take (i + 1)) k), mD v nx zs c, Weak.ren (keeps76 hc g0 g1) ⟨ren_at e1 (VRen.int _ _), ren_at e5 (by rw [hcs, hb]; exact VRen.int _ _), ren_at e12 (VRen.slice (show 1 < 2 by decide) rfl hc), ren_at e13 (VRen.int _ _), ren_at e14 (VRen.int _ _), trivial⟩,
        zs.length - (i + 1), by omega, i + 1, by omega, rfl, rfl, rfl⟩
  · have hge : zs.length ≤ i := by simpa using ht
    rw [List.take_of_length_le hge] at hq
    subst hq
    refine HL.seq (HL.reg (C := ctx) (call := callF73) (fid := 76) (snd73 (by kernel_rfl)) (OpsP.rest (by kernel_rfl) (HL.ret ?_)))
    exact Ends.ret1 (C := ctx) (R := fun u _ => u = .int .i64 (cnt zs k)) ret76 (v := .int .i64 (cnt zs k)) (by kernel_rfl) rfl

/-- what pending is told to answer -/
def T76 (args : List Value) (m : Mem) : Option Value := match args with
  | [.pointer (some ⟨d, 0, none⟩), .int .i64 k] => (match m.get d with
    | some (.cells (.int .i64 _ :: .int .i64 _ :: x :: [_]) e st) => bif Nat.beq e 4 && m.alive st then (zonesAt m x).bind fun zs => some (.int .i64 (cnt zs k)) else none
    | _ => none)
  | _ => none

theorem ok76 [Atoms] (B : Nat → Prop) (w0 : World) : CallOk Try.prog B w0 76 (toldR T76) := by
  refine CallOk.reads ctx_ok (P := Try.prog) (C := ctx) Try.func76 (by kernel_rfl) b76_body fun args m v h => ?_
  unfold T76 at h
  split at h
  · rename_i d k
    split at h
    · rename_i ver nx x hosts e st hb
      cases hc : (Nat.beq e 4 && m.alive st) with
      | false => rw [hc] at h; cases h
      | true =>
        rw [hc] at h
        simp only [cond_true] at h
        simp only [Bool.and_eq_true] at hc
        have he := Nat.eq_of_beq_eq_true hc.1
        subst he
        obtain ⟨zs, hz, h⟩ := Option.bind_eq_some_iff.1 h
        simp only [Option.some.injEq] at h
        subst h
        obtain ⟨o, c, vs, st2, rfl, ho, hal, hcc, hn, hfl⟩ := zonesAt_spec hz
        refine ⟨Free.flat rfl, fun i => if i = 0 then d else o, mD ver nx zs c, [ptr 0 0, .int .i64 k], ?_, ?_, Nat.le_of_ble_eq_true (by kernel_rfl), hf76 ver nx zs k c hn hcc⟩
        · intro i hi
          have : i = 0 ∨ i = 1 := by have : i < 2 := hi; omega
          rcases this with rfl | rfl
          · exact ⟨_, _, 4, st, rfl, hb, hc.2, .cons (VRen.int _ _) (.cons (VRen.int _ _) (.cons (VRen.slice (show 1 < 2 by decide) rfl hcc) (.cons (VRen.junk _) .nil)))⟩
          · exact ⟨_, vs, 9, st2, rfl, ho, hal, by rw [flat_length, hfl]; exact LRen.zones zs⟩
        · exact LRen.cons (VRen.ptr (show 0 < 2 by decide) rfl) (LRen.cons (VRen.int _ _) .nil)
    · cases h
  · cases h

end Go.Ev.Dir

namespace Go.Ev.Dir
open Go.Ev Go.Proofs
set_option linter.unusedSectionVars false

def ints (l : List Int) : List Value := l.map fun n => .int .i64 n
def unints : List Value → Option (List Int)
  | [] => some []
  | .int .i64 n :: r => (unints r).map fun l => n :: l
  | _ => none
theorem unints_ints : ∀ l : List Int, unints (ints l) = some l
  | [] => rfl
  | n :: r => by
    show (unints (ints r)).map (fun l => n :: l) = _
    rw [unints_ints r]; rfl
theorem unints_spec : ∀ {vs : List Value} {l : List Int}, unints vs = some l → vs = ints l
  | [], l, h => by simp only [unints, Option.some.injEq] at h; subst h; rfl
  | v :: r, l, h => by
    unfold unints at h
    split at h
    · rename_i heq; cases heq
    · rename_i n r' heq
      cases heq
      obtain ⟨l', hl, rfl⟩ := Option.map_eq_some_iff.1 h
      rw [unints_spec hl]; rfl
    · cases h

/-- the ints that a slice in memory holds -/
def intsAt (m : Mem) (x : Value) : Option (List Int) := match x with
  | .slice (some ⟨o, 0, none⟩) n c => (match m.get o with
    | some (.cells vs e st) => bif Nat.beq e 1 && m.alive st && !(n == 0 && c == UNK) && Nat.ble n 1000 && Nat.ble n vs.length then unints (vs.take n) else none
    | _ => none)
  | _ => none

theorem intsAt_spec {m : Mem} {x : Value} {l : List Int} (h : intsAt m x = some l) : ∃ o c vs st, x = .slice (some ⟨o, 0, none⟩) l.length c ∧ m.get o = some (.cells vs 1 st) ∧ m.alive st = true ∧ (l.length == 0 && c == UNK) = false ∧ l.length ≤ 1000 ∧
    vs.take l.length = ints l := by
  unfold intsAt at h
  split at h
  · rename_i o n c
    split at h
    · rename_i vs e st hm
      cases hc : (Nat.beq e 1 && m.alive st && !(n == 0 && c == UNK) && Nat.ble n 1000 && Nat.ble n vs.length) with
      | false => rw [hc] at h; cases h
      | true =>
        rw [hc] at h
        simp only [cond_true] at h
        have h1 := unints_spec h
        simp only [Bool.and_eq_true, Bool.not_eq_true'] at hc
        obtain ⟨⟨⟨⟨a1, a2⟩, a3⟩, a4⟩, a5⟩ := hc
        have := Nat.eq_of_beq_eq_true a1
        subst this
        have hl : l.length = n := by
          have h2 := congrArg List.length h1
          have h3 := Nat.le_of_ble_eq_true a5
          simp [ints] at h2
          omega
        subst hl
        exact ⟨o, c, vs, st, rfl, hm, a2, a3, Nat.le_of_ble_eq_true a4, h1⟩
    · cases h
  · cases h

theorem intsAt_ints {m : Mem} {o c : Nat} {l : List Int} {st : Stat} (hm : m.get o = some (.cells (ints l) 1 st)) (hal : m.alive st = true) (hc : (l.length == 0 && c == UNK) = false) (hn : l.length ≤ 1000) :
    intsAt m (.slice (some ⟨o, 0, none⟩) l.length c) = some l := by
  have hlen : (ints l).length = l.length := by simp [ints]
  unfold intsAt
  simp only [hm]
  rw [hal, hc, show Nat.ble l.length 1000 = true from Nat.ble_eq_true_of_le hn, show Nat.ble l.length (ints l).length = true from Nat.ble_eq_true_of_le (by omega)]
  simp only [show Nat.beq 1 1 = true from rfl, Bool.not_false, Bool.and_true, cond_true]
  rw [← hlen, List.take_length]
  exact unints_ints l

theorem LRen.ints [Atoms] {σ : Nat → Nat} {k : Nat} (l : List Int) : LRen σ k (ints l) (Dir.ints l) := by
  refine LRen.same fun u hu => ?_
  obtain ⟨n, _, rfl⟩ := List.mem_map.1 hu
  rfl

theorem step_loadI {call : CallF} {ops : Array Oper} {s : Slots} {m : Mem} {o : Oper} {a : Operand} {b j : Nat} {st : Stat} {l : List Int} {x : Int} (hw : wanted ops s o = some true) (ho : o.op = .load 3 a) (ha : s.eval a = ptr b (0 + j * 1))
    (hm : m.get b = some (.cells (ints l) 1 st)) (hal : m.alive st = true) (hx : l[j]? = some x) : stepOp ctx call ops o s m = some (s.put o.dst (.int .i64 x), m) := by
  refine step_load (ti := ⟨false, 1⟩) (cs := [.int .i64 x]) hw ho ha (by kernel_rfl) ?_ rfl
  have hj : j < l.length := (List.getElem?_eq_some_iff.1 hx).1
  have hx' : (ints l)[j]? = some (.int .i64 x) := by simp [ints, hx]
  have hlen : (ints l).length = l.length := by simp [ints]
  unfold Mem.loadN Mem.cells
  rw [hm]
  simp only [hal, cond_true, Option.bind_some, cond_false]
  rw [show Nat.ble (0 + j * 1 + 1) (ints l).length = true from Nat.ble_eq_true_of_le (by omega)]
  simp only [cond_true]
  rw [show 0 + j * 1 = j from by omega, drop_at hx']
  rfl

def findI : List Int → Int → Nat → Int
  | [], _, _ => -1
  | z :: r, x, i => bif decide (x = z) then (i : Int) else findI r x (i + 1)

def mI (l : List Int) : Mem := ⟨.node (some (.cells (ints l) 1 .ro)) .leaf .leaf, 1⟩

noncomputable def b103 : Code := bodyOf Try.f103
theorem b103_body : Try.f103.body = some b103 := by kernel_rfl
noncomputable def l103 : Code := loopOf (blockOf (sB (sA (sB b103))))
noncomputable def i103 : Code := blockOf (sA (sB (sB l103)))
noncomputable def r103_0 : Array Oper := rOps (sA b103)
noncomputable def r103_1 : Array Oper := rOps (sA (sA (sB b103)))
noncomputable def r103_2 : Array Oper := rOps (sA l103)
noncomputable def r103_3 : Array Oper := rOps (sA i103)
noncomputable def r103_4 : Array Oper := rOps (sA (sB i103))
noncomputable def r103_5 : Array Oper := rOps (sA (ifA (sB (sB i103))))
noncomputable def r103_6 : Array Oper := rOps (sB (sB (sB l103)))
noncomputable def r103_7 : Array Oper := rOps (sA (sB (sB b103)))
noncomputable def body103 : Code := .seq (.region 2 r103_2 false) (.seq (.cond (.tmp 9) .skip (.exit 0)) (.seq (.block 1 (.seq (.region 3 r103_3 false) (.seq (.region 4 r103_4 false) (.cond (.tmp 16) (.seq (.region 5 r103_5 false) .ret) .skip)))) (.region 6 r103_6 false)))
theorem b103_eq : b103 = .seq (.region 0 r103_0 false) (.seq (.seq (.region 1 r103_1 false) (.block 0 (.loop body103))) (.seq (.region 7 r103_7 false) .ret)) := by kernel_rfl
theorem r103_4_3 : r103_4.toList.drop 3 = (r103_4.toList.drop 3).headD default :: r103_4.toList.drop 4 := by kernel_rfl
theorem r103_4_4 : r103_4.toList.drop 4 = (r103_4.toList.drop 4).headD default :: r103_4.toList.drop 5 := by kernel_rfl
theorem ret103 : Try.f103.results.toList = [.tmp 4] := by kernel_rfl

noncomputable def s103 (l : List Int) (x : Int) (c i : Nat) : Slots := mkS 19 [(0, .slice (some ⟨0, 0, none⟩) l.length c), (1, .int .i64 x), (7, .int .i64 l.length), (8, .int .i64 i)]

theorem keeps103 [Atoms] {m : Mem} {l : List Int} (h0 : m.get 0 = some (.cells (ints l) 1 .ro)) : Keeps (fun i => i) m (mI l) where
  inj i j _ _ h := h
  obj i hi := by
    have : i = 0 := by have : i < 1 := hi; omega
    subst this
    exact ⟨_, _, 1, .ro, rfl, h0, .inl rfl, by rw [List.take_length]; exact LRen.ints l⟩

def Inv103 (l : List Int) (x : Int) (c : Nat) (n : Nat) (s : Slots) (m : Mem) : Prop :=
  ∃ i, i ≤ l.length ∧ n = l.length - i ∧ s = s103 l x c i ∧ m = mI l ∧ findI l x 0 = findI (l.drop i) x i

theorem hf103 [Atoms] (l : List Int) (x : Int) (c : Nat) (hn : l.length ≤ 1000) (hc : (l.length == 0 && c == UNK) = false) : HF Try.prog ctx Try.f103 [.slice (some ⟨0, 0, none⟩) l.length c, .int .i64 x] (mI l) fun v _ => v = .int .i64 (findI l x 0) := by
  intro B w0
  show HL _ _ _ _ b103 _ _ _
  rw [b103_eq]
  refine HL.seq (HL.reg (C := ctx) (call := callF73) (fid := 103) (snd73 (by kernel_rfl)) (OpsP.rest (by kernel_rfl) ?_))
  refine HL.seq (HL.seq (HL.reg (C := ctx) (call := callF73) (fid := 103) (snd73 (by kernel_rfl)) (OpsP.rest (by kernel_rfl) ?_)))
  refine HL.weak (Weak.ren (m1 := mI l) (l := [(0, .slice (some ⟨0, 0, none⟩) l.length c), (1, .int .i64 x), (7, .int .i64 l.length), (8, .int .i64 ((0 : Nat) : Int))]) (keeps103 (by kernel_rfl))
    ⟨ren_at (v := .slice (some ⟨0, 0, none⟩) l.length c) (by kernel_rfl) (VRen.slice (show 0 < 1 by decide) rfl hc), ren_at (v := .int .i64 x) (by kernel_rfl) (VRen.int _ _),
      ren_at (v := .int .i64 l.length) (by kernel_rfl) (VRen.int _ _), ren_at (v := .int .i64 ((0 : Nat) : Int)) (by kernel_rfl) (VRen.int _ _), trivial⟩) ?_
  refine HL.blockLoop (Inv103 l x c) ?_ (n := l.length) ⟨0, by omega, by omega, rfl, rfl, rfl⟩
  rintro n s m ⟨i, hi, rfl, rfl, rfl, hf⟩
  refine HL.seq (HL.reg (C := ctx) (call := callF73) (fid := 103) (snd73 (by kernel_rfl)) (OpsP.rest (by kernel_rfl) ?_))
  refine HL.seq (HL.cond (t := decide ((i : Int) < (l.length : Int))) (by kernel_rfl) rfl (fun ht => HL.skip ?_) (fun ht => HL.exit ⟨rfl, ?_⟩))
  · have hlt : i < l.length := by simpa using ht
    obtain ⟨z, hz⟩ : ∃ z, l[i]? = some z := ⟨l[i], List.getElem?_eq_getElem hlt⟩
    have hdrop := drop_at hz
    refine HL.seq (HL.block (HL.seq (HL.reg (C := ctx) (call := callF73) (fid := 103) (snd73 (by kernel_rfl)) (OpsP.rest (by kernel_rfl) ?_))))
    refine HL.seq (HL.reg (C := ctx) (call := callF73) (fid := 103) (snd73 (by kernel_rfl)) (OpsP.take 3 (by kernel_rfl) ?_))
    refine OpsP.stepAt r103_4_3 (step_indexAddr (x := .tmp 12) (i := .tmp 13) (t := 43) (e := 3) (z := 1) (j := i) (n := l.length) (c := c) (b := 0) (off := 0) (k := .i64) (iv := i) (by kernel_rfl) (by kernel_rfl) (by kernel_rfl) (by kernel_rfl) (by kernel_rfl) (by kernel_rfl) rfl hlt) ?_
    refine OpsP.stepAt r103_4_4 (step_loadI (a := .tmp 14) (b := 0) (j := i) (st := .ro) (by kernel_rfl) (by kernel_rfl) (by kernel_rfl) (by kernel_rfl) rfl hz) ?_
    refine OpsP.rest (by kernel_rfl) ?_
    refine HL.cond (t := decide (x = z)) (by kernel_rfl) rfl (fun hb => ?_) (fun hb => HL.skip ?_)
    · refine HL.seq (HL.reg (C := ctx) (call := callF73) (fid := 103) (snd73 (by kernel_rfl)) (OpsP.rest (by kernel_rfl) (HL.ret ?_)))
      exact Ends.ret1 (C := ctx) (R := fun v _ => v = .int .i64 (findI l x 0)) ret103 (v := .int .i64 i) (by kernel_rfl) (by rw [hf, hdrop, findI, hb]; rfl)
    · refine HL.post (HL.reg (C := ctx) (call := callF73) (fid := 103) (Q := fun e s m => e = .normal ∧ s.get 0 = .slice (some ⟨0, 0, none⟩) l.length c ∧ s.get 1 = .int .i64 x ∧ s.get 7 = .int .i64 l.length ∧ s.get 8 = .int .i64 (wrapF .i64 (i + 1)) ∧ m.get 0 = some (.cells (ints l) 1 .ro)) (snd73 (by kernel_rfl)) (OpsP.rest (by kernel_rfl) ⟨rfl, by kernel_rfl, by kernel_rfl, by kernel_rfl, by kernel_rfl, by kernel_rfl⟩)) ?_
      rintro e s' m' ⟨rfl, e0, e1, e7, e8, g0⟩
      rw [wrapF_small (by omega) (by omega)] at e8
      refine ⟨s103 l x c (i + 1), mI l, Weak.ren (keeps103 g0) ⟨ren_at e0 (VRen.slice (show 0 < 1 by decide) rfl hc), ren_at e1 (VRen.int _ _), ren_at e7 (VRen.int _ _), ren_at e8 (VRen.int _ _), trivial⟩,
        l.length - (i + 1), by omega, i + 1, by omega, rfl, rfl, rfl, ?_⟩
      rw [hf, hdrop, findI, hb]
      rfl
  · have hge : l.length ≤ i := by simpa using ht
    have hm1 : findI l x 0 = -1 := by rw [hf, List.drop_eq_nil_of_le hge]; rfl
    refine HL.seq (HL.reg (C := ctx) (call := callF73) (fid := 103) (snd73 (by kernel_rfl)) (OpsP.rest (by kernel_rfl) (HL.ret ?_)))
    exact Ends.ret1 (C := ctx) (R := fun v _ => v = .int .i64 (findI l x 0)) ret103 (v := .int .i64 (-1)) (by kernel_rfl) (by rw [hm1])

/-- what Index is told to answer -/
def T103 (args : List Value) (m : Mem) : Option Value := match args with
  | [y, .int .i64 x] => (intsAt m y).bind fun l => some (.int .i64 (findI l x 0))
  | _ => none

theorem ok103 [Atoms] (B : Nat → Prop) (w0 : World) : CallOk Try.prog B w0 103 (toldR T103) := by
  refine CallOk.reads ctx_ok (P := Try.prog) (C := ctx) Try.func103 (by kernel_rfl) b103_body fun args m v h => ?_
  unfold T103 at h
  split at h
  · rename_i y x
    obtain ⟨l, hz, h⟩ := Option.bind_eq_some_iff.1 h
    simp only [Option.some.injEq] at h
    subst h
    obtain ⟨o, c, vs, st2, rfl, ho, hal, hcc, hn, hfl⟩ := intsAt_spec hz
    refine ⟨Free.flat rfl, fun _ => o, mI l, [.slice (some ⟨0, 0, none⟩) l.length c, .int .i64 x], ?_, ?_, Nat.le_of_ble_eq_true (by kernel_rfl), hf103 l x c hn hcc⟩
    · intro i hi
      have : i = 0 := by have : i < 1 := hi; omega
      subst this
      exact ⟨_, vs, 1, st2, rfl, ho, hal, by rw [show (ints l).length = l.length from by simp [ints], hfl]; exact LRen.ints l⟩
    · exact LRen.cons (VRen.slice (show 0 < 1 by decide) rfl hcc) (LRen.cons (VRen.int _ _) .nil)
  · cases h

end Go.Ev.Dir

namespace Go.Ev.Dir
open Go.Ev Go.Proofs
set_option linter.unusedSectionVars false

structure Ch where
  kind : Int
  zone : Int
  ep : Int
  to : Int
  key : ByteArray
def Ch.cells (c : Ch) : List Value := [.int .i64 c.kind, .int .i64 c.zone, .int .i64 c.ep, .int .i64 c.to, .string c.key]
def flatC : List Ch → List Value
  | [] => []
  | z :: r => z.cells ++ flatC r
theorem flatC_length : ∀ l : List Ch, (flatC l).length = 5 * l.length
  | [] => rfl
  | z :: r => by
    have : z.cells.length = 5 := rfl
    simp only [flatC, List.length_append, this, flatC_length r, List.length_cons]; omega
theorem flatC_drop : ∀ (zs : List Ch) (j : Nat), (flatC zs).drop (5 * j) = flatC (zs.drop j)
  | [], j => by simp [flatC]
  | z :: r, 0 => rfl
  | z :: r, j + 1 => by
    have h5 : z.cells.length = 5 := rfl
    have : 5 * (j + 1) = z.cells.length + 5 * j := by omega
    rw [flatC, this, List.drop_append, List.drop_eq_nil_of_le (by omega), List.nil_append, Nat.add_sub_cancel_left, flatC_drop r j]
    rfl
theorem loadN_ch {m : Mem} {b : Nat} {st : Stat} {l : List Ch} {j : Nat} {x : Ch} (hm : m.get b = some (.cells (flatC l) 5 st)) (hal : m.alive st = true) (hz : l[j]? = some x) (f n : Nat) (hfn : f + n ≤ 5) :
    m.loadN b (0 + j * 5 + f) n = some ((x.cells.drop f).take n) := by
  have hj : j < l.length := (List.getElem?_eq_some_iff.1 hz).1
  have hl := flatC_length l
  have h5 : x.cells.length = 5 := rfl
  unfold Mem.loadN Mem.cells
  rw [hm]
  simp only [hal, cond_true, Option.bind_some]
  rw [show Nat.ble (0 + j * 5 + f + n) (flatC l).length = true from Nat.ble_eq_true_of_le (by omega)]
  simp only [cond_true]
  rw [show 0 + j * 5 + f = 5 * j + f from by omega, ← List.drop_drop, flatC_drop, drop_at hz, flatC, List.drop_append_of_le_length (by omega), List.take_append_of_le_length (by simp; omega)]

theorem step_loadC {call : CallF} {ops : Array Oper} {s : Slots} {m : Mem} {o : Oper} {a : Operand} {b j : Nat} {st : Stat} {l : List Ch} {x : Ch} (hw : wanted ops s o = some true) (ho : o.op = .load 34 a) (ha : s.eval a = ptr b (0 + j * 5))
    (hm : m.get b = some (.cells (flatC l) 5 st)) (hal : m.alive st = true) (hz : l[j]? = some x) : stepOp ctx call ops o s m = some (s.put o.dst (.agg ⟨x.cells⟩), m) :=
  step_load (ti := ⟨true, 5⟩) hw ho ha (by kernel_rfl) (loadN_ch hm hal hz 0 5 (by omega)) rfl
theorem step_loadK {call : CallF} {ops : Array Oper} {s : Slots} {m : Mem} {o : Oper} {a : Operand} {b j : Nat} {st : Stat} {l : List Ch} {x : Ch} (hw : wanted ops s o = some true) (ho : o.op = .load 9 a) (ha : s.eval a = ptr b (0 + j * 5 + 4))
    (hm : m.get b = some (.cells (flatC l) 5 st)) (hal : m.alive st = true) (hz : l[j]? = some x) : stepOp ctx call ops o s m = some (s.put o.dst (.string x.key), m) :=
  step_load (ti := ⟨false, 1⟩) hw ho ha (by kernel_rfl) (loadN_ch hm hal hz 4 1 (by omega)) rfl

theorem LRen.chs [Atoms] {σ : Nat → Nat} {k : Nat} (l : List Ch) : LRen σ k (flatC l) (flatC l) := by
  refine LRen.same ?_
  induction l with
  | nil => intro u hu; cases hu
  | cons z r ih =>
    intro u hu
    rcases List.mem_append.1 hu with h | h
    · unfold Ch.cells at h
      simp only [List.mem_cons, List.not_mem_nil, or_false] at h
      rcases h with rfl | rfl | rfl | rfl | rfl <;> rfl
    · exact ih u h

def parseC : Nat → List Value → Option (List Ch)
  | 0, [] => some []
  | n + 1, .int .i64 a :: .int .i64 b :: .int .i64 c :: .int .i64 d :: .string e :: r => (parseC n r).map fun l => ⟨a, b, c, d, e⟩ :: l
  | _, _ => none
theorem parseC_flat : ∀ l : List Ch, parseC l.length (flatC l) = some l
  | [] => rfl
  | z :: r => by
    show (parseC r.length (flatC r)).map (fun l => z :: l) = _
    rw [parseC_flat r]
    rfl
theorem parseC_spec : ∀ {n : Nat} {vs : List Value} {l : List Ch}, parseC n vs = some l → vs = flatC l ∧ l.length = n := by
  intro n
  induction n with
  | zero =>
    intro vs l h
    cases vs with
    | nil => simp only [parseC, Option.some.injEq] at h; subst h; exact ⟨rfl, rfl⟩
    | cons v r => simp [parseC] at h
  | succ n ih =>
    intro vs l h
    unfold parseC at h
    split at h
    · rename_i heq
      first | (cases heq; done) | (rename_i heq2; cases heq2)
    · rename_i k a b c d e r heq
      cases heq
      obtain ⟨l', hl, rfl⟩ := Option.map_eq_some_iff.1 h
      obtain ⟨rfl, rfl⟩ := ih hl
      exact ⟨rfl, rfl⟩
    · cases h

/-- the changes that a slice in memory holds -/
def chsAt (m : Mem) (x : Value) : Option (List Ch) := match x with
  | .slice (some ⟨o, 0, none⟩) n c => (match m.get o with
    | some (.cells vs e st) => bif Nat.beq e 5 && m.alive st && !(n == 0 && c == UNK) then parseC n vs else none
    | _ => none)
  | _ => none
theorem chsAt_spec {m : Mem} {x : Value} {l : List Ch} (h : chsAt m x = some l) : ∃ o c st, x = .slice (some ⟨o, 0, none⟩) l.length c ∧ m.get o = some (.cells (flatC l) 5 st) ∧ m.alive st = true ∧ (l.length == 0 && c == UNK) = false := by
  unfold chsAt at h
  split at h
  · rename_i o n c
    split at h
    · rename_i vs e st hm
      cases hc : (Nat.beq e 5 && m.alive st && !(n == 0 && c == UNK)) with
      | false => rw [hc] at h; cases h
      | true =>
        rw [hc] at h
        simp only [cond_true] at h
        obtain ⟨h1, h2⟩ := parseC_spec h
        subst h2
        simp only [Bool.and_eq_true, Bool.not_eq_true'] at hc
        obtain ⟨⟨a1, a2⟩, a3⟩ := hc
        have := Nat.eq_of_beq_eq_true a1
        subst this
        subst h1
        exact ⟨o, c, st, rfl, hm, a2, a3⟩
    · cases h
  · cases h
theorem chsAt_flat {m : Mem} {o c : Nat} {l : List Ch} {st : Stat} (hm : m.get o = some (.cells (flatC l) 5 st)) (hal : m.alive st = true) (hc : (l.length == 0 && c == UNK) = false) : chsAt m (.slice (some ⟨o, 0, none⟩) l.length c) = some l := by
  unfold chsAt
  simp only [hm]
  rw [hal, hc]
  simp only [show Nat.beq 5 5 = true from rfl, Bool.not_false, Bool.and_true, cond_true]
  exact parseC_flat l

def heavyM (l : List Ch) : Bool := (l.take 100).any fun c => decide (60 < (c.key.data.size : Int))

def mC (l : List Ch) : Mem := ⟨.node (some (.cells (flatC l) 5 .ro)) .leaf .leaf, 1⟩

noncomputable def b12 : Code := bodyOf Try.f12
theorem b12_body : Try.f12.body = some b12 := by kernel_rfl
noncomputable def x12 : Code := sA (sB b12)
noncomputable def l12 : Code := loopOf (blockOf (sB x12))
noncomputable def i12 : Code := blockOf (sA (sB l12))
noncomputable def r12_0 : Array Oper := rOps (sA b12)
noncomputable def r12_1 : Array Oper := rOps (sA x12)
noncomputable def r12_2 : Array Oper := rOps (sA (sA l12))
noncomputable def r12_3 : Array Oper := rOps (sB (sB l12))
noncomputable def r12_4 : Array Oper := rOps (sA i12)
noncomputable def r12_5 : Array Oper := rOps (sA (ifA (sB i12)))
noncomputable def r12_6 : Array Oper := rOps (sA (sB (sB b12)))
noncomputable def body12 : Code := .seq (.seq (.region 2 r12_2 false) (.cond (.tmp 11) .skip (.exit 0))) (.seq (.block 1 (.seq (.region 4 r12_4 false) (.cond (.tmp 20) (.seq (.region 5 r12_5 false) .ret) .skip))) (.region 3 r12_3 false))
theorem b12_eq : b12 = .seq (.region 0 r12_0 false) (.seq (.seq (.region 1 r12_1 false) (.block 0 (.loop body12))) (.seq (.region 6 r12_6 false) .ret)) := by kernel_rfl
theorem r12_2_3 : r12_2.toList.drop 3 = (r12_2.toList.drop 3).headD default :: r12_2.toList.drop 4 := by kernel_rfl
theorem r12_2_6 : (r12_2.toList.drop 4).drop 2 = ((r12_2.toList.drop 4).drop 2).headD default :: r12_2.toList.drop 7 := by kernel_rfl
theorem r12_4_2 : r12_4.toList.drop 2 = (r12_4.toList.drop 2).headD default :: r12_4.toList.drop 3 := by kernel_rfl
theorem r12_4_4 : (r12_4.toList.drop 3).drop 1 = ((r12_4.toList.drop 3).drop 1).headD default :: r12_4.toList.drop 5 := by kernel_rfl
theorem ret12 : Try.f12.results.toList = [.tmp 2] := by kernel_rfl

noncomputable def s12 (l : List Ch) (c i : Nat) : Slots := mkS 21 [(0, .slice (some ⟨0, 0, none⟩) l.length c), (3, .int .i64 i)]

theorem keeps12 [Atoms] {m : Mem} {l : List Ch} (h0 : m.get 0 = some (.cells (flatC l) 5 .ro)) : Keeps (fun i => i) m (mC l) where
  inj i j _ _ h := h
  obj i hi := by
    have : i = 0 := by have : i < 1 := hi; omega
    subst this
    exact ⟨_, _, 5, .ro, rfl, h0, .inl rfl, by rw [List.take_length]; exact LRen.chs l⟩

def Inv12 (l : List Ch) (c : Nat) (n : Nat) (s : Slots) (m : Mem) : Prop :=
  ∃ i, i ≤ 100 ∧ n = 100 - i ∧ s = s12 l c i ∧ m = mC l ∧ heavyM l = ((l.drop i).take (100 - i)).any fun c => decide (60 < (c.key.data.size : Int))

theorem hf12 [Atoms] (l : List Ch) (c : Nat) (hc : (l.length == 0 && c == UNK) = false) : HF Try.prog ctx Try.f12 [.slice (some ⟨0, 0, none⟩) l.length c] (mC l) fun v _ => v = .bool (heavyM l) := by
  intro B w0
  show HL _ _ _ _ b12 _ _ _
  rw [b12_eq]
  refine HL.seq (HL.reg (C := ctx) (call := callF73) (fid := 12) (snd73 (by kernel_rfl)) (OpsP.rest (by kernel_rfl) ?_))
  refine HL.seq (HL.seq (HL.reg (C := ctx) (call := callF73) (fid := 12) (snd73 (by kernel_rfl)) (OpsP.rest (by kernel_rfl) ?_)))
  refine HL.weak (Weak.ren (m1 := mC l) (l := [(0, .slice (some ⟨0, 0, none⟩) l.length c), (3, .int .i64 ((0 : Nat) : Int))]) (keeps12 (by kernel_rfl))
    ⟨ren_at (v := .slice (some ⟨0, 0, none⟩) l.length c) (by kernel_rfl) (VRen.slice (show 0 < 1 by decide) rfl hc), ren_at (v := .int .i64 ((0 : Nat) : Int)) (by kernel_rfl) (VRen.int _ _), trivial⟩) ?_
  refine HL.blockLoop (Inv12 l c) ?_ (n := 100) ⟨0, by omega, by omega, rfl, rfl, rfl⟩
  rintro n s m ⟨i, hi, rfl, rfl, rfl, hf⟩
  have out : ∀ s m, (l.length ≤ i ∨ 100 ≤ i) → (HL Try.prog B w0 Try.f12.ntmps (.seq (.region 6 r12_6 false) .ret) s m (Ends ctx Try.f12 fun v _ => v = .bool (heavyM l))) := by
    intro s m hor
    have hfalse : heavyM l = false := by
      rw [hf]
      rcases hor with h | h
      · rw [List.drop_eq_nil_of_le h]; simp
      · rw [show 100 - i = 0 from by omega]; rfl
    refine HL.seq (HL.reg (C := ctx) (call := callF73) (fid := 12) (snd73 (by kernel_rfl)) (OpsP.rest (by kernel_rfl) (HL.ret ?_)))
    refine Ends.ret1 (C := ctx) (R := fun v _ => v = .bool (heavyM l)) ret12 (v := .bool false) ?_ (by rw [hfalse])
    have : (Out.get (runOps ctx callF73 r12_6 r12_6.toList s m)).1 = s.put (some 2) (.bool false) := by kernel_rfl
    rw [this, Slots.get_put]
  refine HL.seq (HL.seq (HL.reg (C := ctx) (call := callF73) (fid := 12) (snd73 (by kernel_rfl)) (OpsP.take 3 (by kernel_rfl) (OpsP.boolAt 7 r12_2_3 (by kernel_rfl) fun b hb => ?_))))
  have hb' : decide ((i : Int) < (l.length : Int)) = b := Eq.trans (by kernel_rfl) hb
  cases b with
  | false =>
    refine OpsP.rest (by kernel_rfl) ?_
    refine HL.cond (t := false) (by kernel_rfl) rfl (fun h => by cases h) (fun _ => HL.exit ⟨rfl, ?_⟩)
    exact out _ _ (.inl (by simpa using hb'))
  | true =>
    have hlt : i < l.length := by simpa using hb'
    clear hb
    refine OpsP.take 2 (by kernel_rfl) (OpsP.boolAt 10 r12_2_6 (by kernel_rfl) fun b2 hb2 => ?_)
    have hb2' : decide ((i : Int) < 100) = b2 := Eq.trans (by kernel_rfl) hb2
    cases b2 with
    | false =>
      refine OpsP.rest (by kernel_rfl) ?_
      refine HL.cond (t := false) (by kernel_rfl) rfl (fun h => by cases h) (fun _ => HL.exit ⟨rfl, ?_⟩)
      exact out _ _ (.inr (by have := of_decide_eq_false hb2'; omega))
    | true =>
      have hlt2 : i < 100 := by have := of_decide_eq_true hb2'; omega
      clear hb2
      obtain ⟨z, hz⟩ : ∃ z, l[i]? = some z := ⟨l[i], List.getElem?_eq_getElem hlt⟩
      have hdrop := drop_at hz
      have hstep : heavyM l = (decide (60 < (z.key.data.size : Int)) || ((l.drop (i + 1)).take (100 - (i + 1))).any fun c => decide (60 < (c.key.data.size : Int))) := by
        rw [hf, hdrop, show 100 - i = (100 - (i + 1)) + 1 from by omega, List.take_succ_cons, List.any_cons]
      refine OpsP.rest (by kernel_rfl) ?_
      refine HL.cond (t := true) (by kernel_rfl) rfl (fun _ => HL.skip ?_) (fun h => by cases h)
      refine HL.seq (HL.block (HL.seq (HL.reg (C := ctx) (call := callF73) (fid := 12) (snd73 (by kernel_rfl)) (OpsP.take 2 (by kernel_rfl) ?_))))
      refine OpsP.stepAt r12_4_2 (step_indexAddr (x := .tmp 14) (i := .tmp 15) (t := 22) (e := 34) (z := 5) (j := i) (n := l.length) (c := c) (b := 0) (off := 0) (k := .i64) (iv := i) (by kernel_rfl) (by kernel_rfl) (by kernel_rfl) (by kernel_rfl) (by kernel_rfl) (by kernel_rfl) rfl hlt) ?_
      refine OpsP.take 1 (by kernel_rfl) ?_
      refine OpsP.stepAt r12_4_4 (step_loadK (a := .tmp 17) (b := 0) (j := i) (st := .ro) (by kernel_rfl) (by kernel_rfl) (by kernel_rfl) (by kernel_rfl) rfl hz) ?_
      refine OpsP.rest (by kernel_rfl) ?_
      refine HL.cond (t := decide (60 < (z.key.data.size : Int))) (by kernel_rfl) rfl (fun hk => ?_) (fun hk => HL.skip ?_)
      · refine HL.seq (HL.reg (C := ctx) (call := callF73) (fid := 12) (snd73 (by kernel_rfl)) (OpsP.rest (by kernel_rfl) (HL.ret ?_)))
        exact Ends.ret1 (C := ctx) (R := fun v _ => v = .bool (heavyM l)) ret12 (v := .bool true) (by kernel_rfl) (by rw [hstep, hk]; rfl)
      · refine HL.post (HL.reg (C := ctx) (call := callF73) (fid := 12) (Q := fun e s m => e = .normal ∧ s.get 0 = .slice (some ⟨0, 0, none⟩) l.length c ∧ s.get 3 = .int .i64 (wrapF .i64 (i + 1)) ∧ m.get 0 = some (.cells (flatC l) 5 .ro)) (snd73 (by kernel_rfl)) (OpsP.rest (by kernel_rfl) ⟨rfl, by kernel_rfl, by kernel_rfl, by kernel_rfl⟩)) ?_
        rintro e s' m' ⟨rfl, e0, e3, g0⟩
        rw [wrapF_small (by omega) (by omega)] at e3
        refine ⟨s12 l c (i + 1), mC l, Weak.ren (keeps12 g0) ⟨ren_at e0 (VRen.slice (show 0 < 1 by decide) rfl hc), ren_at e3 (VRen.int _ _), trivial⟩, 100 - (i + 1), by omega, i + 1, by omega, rfl, rfl, rfl, ?_⟩
        rw [hstep, hk, Bool.false_or]

/-- what heavy is told to answer -/
def T12 (args : List Value) (m : Mem) : Option Value := match args with
  | [.slice none 0 0] => some (.bool false)
  | [y] => (chsAt m y).bind fun l => some (.bool (heavyM l))
  | _ => none

/-- it ends, and answers a Bool -/
def saysBool (C : Ctx) (b : Bool) (rs : List ResultVar) (e : Ex) (s : Slots) (m : Mem) : Bool := match e, resV C s m rs with
  | .ret, some [.bool c] => c == b
  | _, _ => false
theorem saysBool_ends [Atoms] {C : Ctx} {b : Bool} {fn : Func} {e : Ex} {s : Slots} {m : Mem} (h : saysBool C b fn.results.toList e s m = true) : Ends C fn (fun v _ => v = .bool b) e s m := by
  unfold saysBool at h
  split at h
  · rename_i c hr
    refine Ends.ret hr ?_
    rw [beq_iff_eq] at h
    rw [h]; rfl
  · cases h

theorem hf12_nil [Atoms] : HF Try.prog ctx Try.f12 [.slice none 0 0] ⟨.leaf, 0⟩ fun v _ => v = .bool false := fun B w0 =>
  HL.run (C := ctx) (call := callF73) (fid := 12) (snd73 (by kernel_rfl)) (RunP.mono (RunP.all (f := saysBool ctx false Try.f12.results.toList) (by kernel_rfl)) fun _ _ _ h => saysBool_ends h)

theorem ok12 [Atoms] (B : Nat → Prop) (w0 : World) : CallOk Try.prog B w0 12 (toldR T12) := by
  refine CallOk.reads ctx_ok (P := Try.prog) (C := ctx) Try.func12 (by kernel_rfl) b12_body fun args m v h => ?_
  unfold T12 at h
  split at h
  · simp only [Option.some.injEq] at h
    subst h
    exact ⟨Free.flat rfl, fun _ => 0, ⟨.leaf, 0⟩, [.slice none 0 0], fun i hi => absurd hi (Nat.not_lt_zero i), LRen.cons VRen.snil .nil, Nat.le_of_ble_eq_true (by kernel_rfl), hf12_nil⟩
  · rename_i y _
    obtain ⟨l, hz, h⟩ := Option.bind_eq_some_iff.1 h
    simp only [Option.some.injEq] at h
    subst h
    obtain ⟨o, c, st2, rfl, ho, hal, hcc⟩ := chsAt_spec hz
    refine ⟨Free.flat rfl, fun _ => o, mC l, [.slice (some ⟨0, 0, none⟩) l.length c], ?_, LRen.cons (VRen.slice (show 0 < 1 by decide) rfl hcc) .nil, Nat.le_of_ble_eq_true (by kernel_rfl), hf12 l c hcc⟩
    intro i hi
    have : i = 0 := by have : i < 1 := hi; omega
    subst this
    exact ⟨_, _, 5, st2, rfl, ho, hal, by rw [List.take_length]; exact LRen.chs l⟩
  · cases h

end Go.Ev.Dir

namespace Go.Ev.Dir
open Go.Ev Go.Proofs
set_option linter.unusedSectionVars false

def eqS (a b : ByteArray) : Bool := strEq a.data.toList b.data.toList
def nest9 (b1 b2 b3 b4 b5 b6 b7 b8 b9 : Bool) : Option Bool :=
  bif b1 then ((bif b2 then (bif b3 then some true else some false) else some false).bind fun b => bif b then (bif b4 then (bif b5 then (bif b6 then (bif b7 then (bif b8 then (bif b9 then some true else some false) else some false) else some false) else some false) else some false) else some false) else some false) else some false
theorem nest9_eq (b1 b2 b3 b4 b5 b6 b7 b8 b9 : Bool) : nest9 b1 b2 b3 b4 b5 b6 b7 b8 b9 = some (b1 && (b2 && (b3 && (b4 && (b5 && (b6 && (b7 && (b8 && b9)))))))) := by
  cases b1 <;> cases b2 <;> cases b3 <;> cases b4 <;> cases b5 <;> cases b6 <;> cases b7 <;> cases b8 <;> cases b9 <;> rfl

/-- are two zones one? -/
def eqZ (a b : Z) : Bool := decide (a.id = b.id) && (eqS a.lo b.lo && (eqS a.hi b.hi && (decide (a.own = b.own) && (decide (a.ep = b.ep) && (decide (a.pend = b.pend) && (decide (a.to = b.to) && (eqS a.key b.key && decide (a.new = b.new))))))))

theorem eqv_zone (a b : Z) : eqv ctx 20 39 (.agg ⟨a.cells⟩) (.agg ⟨b.cells⟩) = some (eqZ a b) := by
  have h : eqv ctx 20 39 (.agg ⟨a.cells⟩) (.agg ⟨b.cells⟩) = nest9 (decide (a.id = b.id)) (eqS a.lo b.lo) (eqS a.hi b.hi) (decide (a.own = b.own)) (decide (a.ep = b.ep)) (decide (a.pend = b.pend)) (decide (a.to = b.to)) (eqS a.key b.key) (decide (a.new = b.new)) := by kernel_rfl
  rw [h, nest9_eq]
  rfl

theorem cells_flat1 (z : Z) : ∀ v ∈ z.cells, flat1 v = true := by
  intro v hv
  unfold Z.cells at hv
  simp only [List.mem_cons, List.not_mem_nil, or_false] at hv
  rcases hv with rfl | rfl | rfl | rfl | rfl | rfl | rfl | rfl | rfl <;> rfl

def eqZs : List Z → List Z → Bool
  | [], [] => true
  | a :: x, b :: y => eqZ a b && eqZs x y
  | _, _ => false

/-- a map, read -/
structure Mp where
  ver : Int
  nx : Int
  zs : List Z
def eqM (a b : Mp) : Bool := decide (a.ver = b.ver) && (decide (a.nx = b.nx) && (decide ((a.zs.length : Int) = (b.zs.length : Int)) && eqZs a.zs b.zs))

def mapV (a : Mp) (o c : Nat) : Value := .agg ⟨[.int .i64 a.ver, .int .i64 a.nx, .slice (some ⟨o, 0, none⟩) a.zs.length c]⟩
def mM (a b : Mp) : Mem := ⟨.node (some (.cells (flat a.zs) 9 .ro)) (.node (some (.cells (flat b.zs) 9 .ro)) .leaf .leaf) .leaf, 2⟩
def boxM (a : Mp) (o c : Nat) : AObj := .cells [.int .i64 a.ver, .int .i64 a.nx, .slice (some ⟨o, 0, none⟩) a.zs.length c] 3 .sole
/-- behind the boxes: 2, 3 -/
def mM2 (a b : Mp) (ca cb : Nat) : Mem := ⟨.node (some (.cells (flat a.zs) 9 .ro)) (.node (some (.cells (flat b.zs) 9 .ro)) (.node (some (boxM b 1 cb)) .leaf .leaf) .leaf) (.node (some (boxM a 0 ca)) .leaf .leaf), 4⟩

noncomputable def b16 : Code := bodyOf Try.f16
theorem b16_body : Try.f16.body = some b16 := by kernel_rfl
noncomputable def y16 : Code := sA (sB b16)
noncomputable def x16 : Code := sA (sB (sB b16))
noncomputable def l16 : Code := loopOf (blockOf (sB x16))
noncomputable def i16 : Code := blockOf (sA (sB l16))
noncomputable def r16_0 : Array Oper := rOps (sA b16)
noncomputable def r16_1 : Array Oper := rOps (sA y16)
noncomputable def r16_2 : Array Oper := rOps (sA (ifA (sB y16)))
noncomputable def r16_3 : Array Oper := rOps (sA x16)
noncomputable def r16_4 : Array Oper := rOps (sA (sA l16))
noncomputable def r16_5 : Array Oper := rOps (sB (sB l16))
noncomputable def r16_6 : Array Oper := rOps (sA i16)
noncomputable def r16_7 : Array Oper := rOps (sA (ifA (sB i16)))
noncomputable def r16_8 : Array Oper := rOps (sA (sB (sB (sB b16))))
noncomputable def body16 : Code := .seq (.seq (.region 4 r16_4 false) (.cond (.tmp 31) .skip (.exit 0))) (.seq (.block 1 (.seq (.region 6 r16_6 true) (.cond (.tmp 44) (.seq (.region 7 r16_7 false) .ret) .skip))) (.region 5 r16_5 false))
theorem b16_eq : b16 = .seq (.region 0 r16_0 false) (.seq (.seq (.region 1 r16_1 false) (.cond (.tmp 26) (.seq (.region 2 r16_2 false) .ret) .skip)) (.seq (.seq (.region 3 r16_3 false) (.block 0 (.loop body16))) (.seq (.region 8 r16_8 false) .ret))) := by kernel_rfl
theorem plan16_6 : ctx.plans 16 6 = some ⟨[0, 1, 2, 3, 4, 5, 6, 7, 8, 9, 10], [1, 4, 6, 9], []⟩ := by kernel_rfl
theorem ret16 : Try.f16.results.toList = [.tmp 4] := by kernel_rfl
theorem h16_1_4 : r16_1.toList.drop 4 = (r16_1.toList.drop 4).headD default :: r16_1.toList.drop 5 := by kernel_rfl
theorem h16_1_10 : (r16_1.toList.drop 5).drop 5 = ((r16_1.toList.drop 5).drop 5).headD default :: r16_1.toList.drop 11 := by kernel_rfl
theorem h16_1_19 : (r16_1.toList.drop 11).drop 8 = ((r16_1.toList.drop 11).drop 8).headD default :: r16_1.toList.drop 20 := by kernel_rfl
noncomputable def o16 : List Oper := opsAt r16_6 [0, 1, 2, 3, 4, 5, 6, 7, 8, 9, 10]
theorem h16_6_3 : o16.drop 3 = (o16.drop 3).headD default :: o16.drop 4 := by kernel_rfl
theorem h16_6_4 : o16.drop 4 = (o16.drop 4).headD default :: o16.drop 5 := by kernel_rfl
theorem h16_6_8 : (o16.drop 5).drop 3 = ((o16.drop 5).drop 3).headD default :: o16.drop 9 := by kernel_rfl
theorem h16_6_9 : o16.drop 9 = (o16.drop 9).headD default :: o16.drop 10 := by kernel_rfl
theorem h16_6_10 : o16.drop 10 = (o16.drop 10).headD default :: [] := by kernel_rfl

theorem prim_loadZ {s : Slots} {m : Mem} {o : Oper} {a : Operand} {b j : Nat} {st : Stat} {zs : List Z} {rest : List Value} {z : Z} (ho : o.op = .load 39 a) (ha : s.eval a = ptr b (0 + j * 9))
    (hm : m.get b = some (.cells (flat zs ++ rest) 9 st)) (hal : m.alive st = true) (hz : zs[j]? = some z) : prim ctx s.eval o.op m = some (.agg ⟨z.cells⟩, m) :=
  prim_load (ti := ⟨true, 9⟩) ho ha (by kernel_rfl) (loadN_zone hm hal hz 0 9 (by omega)) rfl

noncomputable def s16 (i : Nat) : Slots := mkS 45 [(2, ptr 2 0), (3, ptr 3 0), (5, .int .i64 i)]

theorem keeps16 [Atoms] {m : Mem} {a b : Mp} {ca cb : Nat} (hca : (a.zs.length == 0 && ca == UNK) = false) (hcb : (b.zs.length == 0 && cb == UNK) = false) (h0 : m.get 0 = some (.cells (flat a.zs) 9 .ro)) (h1 : m.get 1 = some (.cells (flat b.zs) 9 .ro))
    (h2 : m.get 2 = some (boxM a 0 ca)) (h3 : m.get 3 = some (boxM b 1 cb)) : Keeps (fun i => i) m (mM2 a b ca cb) where
  inj i j _ _ h := h
  obj i hi := by
    have : i = 0 ∨ i = 1 ∨ i = 2 ∨ i = 3 := by have : i < 4 := hi; omega
    rcases this with rfl | rfl | rfl | rfl
    · exact ⟨_, _, 9, .ro, rfl, h0, .inl rfl, by rw [List.take_length]; exact LRen.zones _⟩
    · exact ⟨_, _, 9, .ro, rfl, h1, .inl rfl, by rw [List.take_length]; exact LRen.zones _⟩
    · exact ⟨_, _, 3, .sole, rfl, h2, .inr rfl, .cons (VRen.int _ _) (.cons (VRen.int _ _) (.cons (VRen.slice (show 0 < 4 by decide) rfl hca) .nil))⟩
    · exact ⟨_, _, 3, .sole, rfl, h3, .inr rfl, .cons (VRen.int _ _) (.cons (VRen.int _ _) (.cons (VRen.slice (show 1 < 4 by decide) rfl hcb) .nil))⟩

def Inv16 (a b : Mp) (ca cb : Nat) (n : Nat) (s : Slots) (m : Mem) : Prop :=
  ∃ i, i ≤ a.zs.length ∧ n = a.zs.length - i ∧ s = s16 i ∧ m = mM2 a b ca cb ∧ eqM a b = eqZs (a.zs.drop i) (b.zs.drop i)

theorem hf16 [Atoms] (a b : Mp) (ca cb : Nat) (hn : a.zs.length ≤ 1000) (hca : (a.zs.length == 0 && ca == UNK) = false) (hcb : (b.zs.length == 0 && cb == UNK) = false) :
    HF Try.prog ctx Try.f16 [mapV a 0 ca, mapV b 1 cb] (mM a b) fun v _ => v = .bool (eqM a b) := by
  intro B w0
  show HL _ _ _ _ b16 _ _ _
  rw [b16_eq]
  refine HL.seq (HL.reg (C := ctx) (call := callF73) (fid := 16) (snd73 (by kernel_rfl)) (OpsP.rest (by kernel_rfl) ?_))
  have out2 : ∀ s m, eqM a b = false → HL Try.prog B w0 Try.f16.ntmps (.seq (.region 2 r16_2 false) .ret) s m (fun e s m => match e with
      | .normal => HL Try.prog B w0 Try.f16.ntmps (.seq (.seq (.region 3 r16_3 false) (.block 0 (.loop body16))) (.seq (.region 8 r16_8 false) .ret)) s m (Ends ctx Try.f16 fun v _ => v = .bool (eqM a b))
      | e => Ends ctx Try.f16 (fun v _ => v = .bool (eqM a b)) e s m) := by
    intro s m he
    refine HL.seq (HL.reg (C := ctx) (call := callF73) (fid := 16) (snd73 (by kernel_rfl)) (OpsP.rest (by kernel_rfl) (HL.ret ?_)))
    refine Ends.ret1 (C := ctx) (R := fun v _ => v = .bool (eqM a b)) ret16 (v := .bool false) ?_ (by rw [he])
    have : (Out.get (runOps ctx callF73 r16_2 r16_2.toList s m)).1 = s.put (some 4) (.bool false) := by kernel_rfl
    rw [this, Slots.get_put]
  refine HL.seq (HL.seq (HL.reg (C := ctx) (call := callF73) (fid := 16) (snd73 (by kernel_rfl)) (OpsP.take 4 (by kernel_rfl) (OpsP.boolAt 10 h16_1_4 (by kernel_rfl) fun b1 hb1 => ?_))))
  have e1 : (!decide (a.ver = b.ver)) = b1 := Eq.trans (by kernel_rfl) hb1
  clear hb1
  cases b1 with
  | true =>
    refine OpsP.rest (by kernel_rfl) (HL.cond (t := true) (by kernel_rfl) rfl (fun _ => out2 _ _ ?_) fun h => by cases h)
    unfold eqM; simp at e1; simp [e1]
  | false =>
    refine OpsP.take 5 (by kernel_rfl) (OpsP.boolAt 16 h16_1_10 (by kernel_rfl) fun b2 hb2 => ?_)
    have e2 : (!decide (a.nx = b.nx)) = b2 := Eq.trans (by kernel_rfl) hb2
    clear hb2
    cases b2 with
    | true =>
      refine OpsP.rest (by kernel_rfl) (HL.cond (t := true) (by kernel_rfl) rfl (fun _ => out2 _ _ ?_) fun h => by cases h)
      unfold eqM; simp at e2; simp [e2]
    | false =>
      refine OpsP.take 8 (by kernel_rfl) (OpsP.boolAt 25 h16_1_19 (by kernel_rfl) fun b3 hb3 => ?_)
      have e3 : (!decide ((a.zs.length : Int) = (b.zs.length : Int))) = b3 := Eq.trans (by kernel_rfl) hb3
      clear hb3
      cases b3 with
      | true =>
        refine OpsP.rest (by kernel_rfl) (HL.cond (t := true) (by kernel_rfl) rfl (fun _ => out2 _ _ ?_) fun h => by cases h)
        unfold eqM; simp at e3; simp [e3]
      | false =>
        have hlen : a.zs.length = b.zs.length := by simp at e3; omega
        have hM : eqM a b = eqZs a.zs b.zs := by
          unfold eqM
          simp at e1 e2 e3
          simp [e1, e2, e3]
        refine OpsP.rest (by kernel_rfl) (HL.cond (t := false) (by kernel_rfl) rfl (fun h => by cases h) fun _ => HL.skip ?_)
        refine HL.seq (HL.seq (HL.reg (C := ctx) (call := callF73) (fid := 16) (snd73 (by kernel_rfl)) (OpsP.rest (by kernel_rfl) ?_)))
        refine HL.weak (Weak.ren (m1 := mM2 a b ca cb) (l := [(2, ptr 2 0), (3, ptr 3 0), (5, .int .i64 ((0 : Nat) : Int))]) (keeps16 hca hcb (by kernel_rfl) (by kernel_rfl) (by kernel_rfl) (by kernel_rfl))
          ⟨ren_at (v := ptr 2 0) (by kernel_rfl) (VRen.ptr (show 2 < 4 by decide) rfl), ren_at (v := ptr 3 0) (by kernel_rfl) (VRen.ptr (show 3 < 4 by decide) rfl), ren_at (v := .int .i64 ((0 : Nat) : Int)) (by kernel_rfl) (VRen.int _ _), trivial⟩) ?_
        refine HL.blockLoop (Inv16 a b ca cb) ?_ (n := a.zs.length) ⟨0, by omega, by omega, rfl, rfl, hM⟩
        rintro n s m ⟨i, hi, rfl, rfl, rfl, hf⟩
        refine HL.seq (HL.seq (HL.reg (C := ctx) (call := callF73) (fid := 16) (snd73 (by kernel_rfl)) (OpsP.rest (by kernel_rfl) ?_)))
        refine HL.cond (t := decide ((i : Int) < (a.zs.length : Int))) (by kernel_rfl) rfl (fun ht => HL.skip ?_) (fun ht => HL.exit ⟨rfl, ?_⟩)
        · have hlt : i < a.zs.length := by simpa using ht
          obtain ⟨z, hz⟩ : ∃ z, a.zs[i]? = some z := ⟨a.zs[i], List.getElem?_eq_getElem hlt⟩
          have hlt2 : i < b.zs.length := by omega
          obtain ⟨y, hy⟩ : ∃ z, b.zs[i]? = some z := ⟨b.zs[i], List.getElem?_eq_getElem hlt2⟩
          have hstep : eqM a b = (eqZ z y && eqZs (a.zs.drop (i + 1)) (b.zs.drop (i + 1))) := by rw [hf, drop_at hz, drop_at hy]; rfl
          refine HL.seq (HL.block (HL.seq (HL.run (C := ctx) (call := callF73) (fid := 16) (snd73 (by kernel_rfl)) (RunP.plan plan16_6 (by kernel_rfl) (by kernel_rfl) ?_))))
          refine OpsP.take 3 (by kernel_rfl) ?_
          refine OpsP.stepAt h16_6_3 (step_indexAddr (x := .tmp 35) (i := .tmp 36) (t := 28) (e := 39) (z := 9) (j := i) (n := a.zs.length) (c := ca) (b := 0) (off := 0) (k := .i64) (iv := i) (by kernel_rfl) (by kernel_rfl) (by kernel_rfl) (by kernel_rfl) (by kernel_rfl) (by kernel_rfl) rfl hlt) ?_
          refine OpsP.stepAt h16_6_4 (step_loadZ (a := .tmp 37) (b := 0) (j := i) (st := .ro) (by kernel_rfl) (by kernel_rfl) (by kernel_rfl) (app_nil (by kernel_rfl)) rfl hz) ?_
          refine OpsP.take 3 (by kernel_rfl) ?_
          refine OpsP.stepAt h16_6_8 (step_indexAddr (x := .tmp 40) (i := .tmp 41) (t := 28) (e := 39) (z := 9) (j := i) (n := b.zs.length) (c := cb) (b := 1) (off := 0) (k := .i64) (iv := i) (by kernel_rfl) (by kernel_rfl) (by kernel_rfl) (by kernel_rfl) (by kernel_rfl) (by kernel_rfl) rfl hlt2) ?_
          refine OpsP.stepAt h16_6_9 (step_loadZ (a := .tmp 42) (b := 1) (j := i) (st := .ro) (by kernel_rfl) (by kernel_rfl) (by kernel_rfl) (app_nil (by kernel_rfl)) rfl hy) ?_
          refine OpsP.stepAt h16_6_10 (step_eqv (x := .tmp 38) (y := .tmp 43) (t := 39) (q := 39) (p := false) (by kernel_rfl) (by kernel_rfl) (by kernel_rfl) (by kernel_rfl) (eqv_zone z y)) ?_
          refine OpsP.nil ⟨?_, ?_⟩
          · refine again_cons (v := .slice (some ⟨0, 0, none⟩) a.zs.length ca) (d := 35) (m2 := mM2 a b ca cb) (by kernel_rfl) (by kernel_rfl) (by kernel_rfl) (by kernel_rfl) (by kernel_rfl) (veq_slice rfl) ?_
            refine again_cons (v := .agg ⟨z.cells⟩) (d := 38) (by kernel_rfl) (by kernel_rfl) (prim_loadZ (a := .tmp 37) (b := 0) (j := i) (st := .ro) (by kernel_rfl) (by kernel_rfl) (app_nil (by kernel_rfl)) rfl hz) (by kernel_rfl) (by kernel_rfl) (veq_agg (cells_flat1 z)) ?_
            refine again_cons (v := .slice (some ⟨1, 0, none⟩) b.zs.length cb) (d := 40) (m2 := mM2 a b ca cb) (by kernel_rfl) (by kernel_rfl) (by kernel_rfl) (by kernel_rfl) (by kernel_rfl) (veq_slice rfl) ?_
            exact again_cons (v := .agg ⟨y.cells⟩) (d := 43) (by kernel_rfl) (by kernel_rfl) (prim_loadZ (a := .tmp 42) (b := 1) (j := i) (st := .ro) (by kernel_rfl) (by kernel_rfl) (app_nil (by kernel_rfl)) rfl hy) (by kernel_rfl) (by kernel_rfl) (veq_agg (cells_flat1 y)) again_nil
          · refine HL.cond (t := !eqZ z y) (by kernel_rfl) rfl (fun hk => ?_) (fun hk => HL.skip ?_)
            · refine HL.seq (HL.reg (C := ctx) (call := callF73) (fid := 16) (snd73 (by kernel_rfl)) (OpsP.rest (by kernel_rfl) (HL.ret ?_)))
              have hk' : eqZ z y = false := by simpa using hk
              exact Ends.ret1 (C := ctx) (R := fun v _ => v = .bool (eqM a b)) ret16 (v := .bool false) (by kernel_rfl) (by rw [hstep, hk']; rfl)
            · have hk' : eqZ z y = true := by simpa using hk
              refine HL.post (HL.reg (C := ctx) (call := callF73) (fid := 16) (Q := fun e s m => e = .normal ∧ s.get 2 = ptr 2 0 ∧ s.get 3 = ptr 3 0 ∧ s.get 5 = .int .i64 (wrapF .i64 (i + 1)) ∧ m.get 0 = some (.cells (flat a.zs) 9 .ro) ∧ m.get 1 = some (.cells (flat b.zs) 9 .ro) ∧ m.get 2 = some (boxM a 0 ca) ∧ m.get 3 = some (boxM b 1 cb)) (snd73 (by kernel_rfl)) (OpsP.rest (by kernel_rfl) ⟨rfl, by kernel_rfl, by kernel_rfl, by kernel_rfl, by kernel_rfl, by kernel_rfl, by kernel_rfl, by kernel_rfl⟩)) ?_
              rintro e s' m' ⟨rfl, e2, e3, e5, g0, g1, g2, g3⟩
              rw [wrapF_small (by omega) (by omega)] at e5
              refine ⟨s16 (i + 1), mM2 a b ca cb, Weak.ren (keeps16 hca hcb g0 g1 g2 g3) ⟨ren_at e2 (VRen.ptr (show 2 < 4 by decide) rfl), ren_at e3 (VRen.ptr (show 3 < 4 by decide) rfl), ren_at e5 (VRen.int _ _), trivial⟩,
                a.zs.length - (i + 1), by omega, i + 1, by omega, rfl, rfl, rfl, ?_⟩
              rw [hstep, hk', Bool.true_and]
        · have hge : a.zs.length ≤ i := by simpa using ht
          have hm1 : eqM a b = true := by rw [hf, List.drop_eq_nil_of_le hge, List.drop_eq_nil_of_le (by omega)]; rfl
          refine HL.seq (HL.reg (C := ctx) (call := callF73) (fid := 16) (snd73 (by kernel_rfl)) (OpsP.rest (by kernel_rfl) (HL.ret ?_)))
          exact Ends.ret1 (C := ctx) (R := fun v _ => v = .bool (eqM a b)) ret16 (v := .bool true) (by kernel_rfl) (by rw [hm1])

/-- what maps is told to answer -/
def T16 (args : List Value) (m : Mem) : Option Value := match args with
  | [.agg ⟨[.int .i64 v1, .int .i64 n1, x1]⟩, .agg ⟨[.int .i64 v2, .int .i64 n2, x2]⟩] => (zonesAt m x1).bind fun z1 => (zonesAt m x2).bind fun z2 => some (.bool (eqM ⟨v1, n1, z1⟩ ⟨v2, n2, z2⟩))
  | _ => none

theorem ok16 [Atoms] (B : Nat → Prop) (w0 : World) : CallOk Try.prog B w0 16 (toldR T16) := by
  refine CallOk.reads ctx_ok (P := Try.prog) (C := ctx) Try.func16 (by kernel_rfl) b16_body fun args m v h => ?_
  unfold T16 at h
  split at h
  · rename_i v1 n1 x1 v2 n2 x2
    obtain ⟨z1, hz1, h⟩ := Option.bind_eq_some_iff.1 h
    obtain ⟨z2, hz2, h⟩ := Option.bind_eq_some_iff.1 h
    simp only [Option.some.injEq] at h
    subst h
    obtain ⟨o1, c1, vs1, st1, rfl, ho1, hal1, hcc1, hn1, hfl1⟩ := zonesAt_spec hz1
    obtain ⟨o2, c2, vs2, st2, rfl, ho2, hal2, hcc2, hn2, hfl2⟩ := zonesAt_spec hz2
    refine ⟨Free.flat rfl, fun i => if i = 0 then o1 else o2, mM ⟨v1, n1, z1⟩ ⟨v2, n2, z2⟩, [mapV ⟨v1, n1, z1⟩ 0 c1, mapV ⟨v2, n2, z2⟩ 1 c2], ?_, ?_, Nat.le_of_ble_eq_true (by kernel_rfl), hf16 _ _ c1 c2 hn1 hcc1 hcc2⟩
    · intro i hi
      have : i = 0 ∨ i = 1 := by have : i < 2 := hi; omega
      rcases this with rfl | rfl
      · exact ⟨_, vs1, 9, st1, rfl, ho1, hal1, by rw [flat_length, hfl1]; exact LRen.zones _⟩
      · exact ⟨_, vs2, 9, st2, rfl, ho2, hal2, by rw [flat_length, hfl2]; exact LRen.zones _⟩
    · exact LRen.cons (VRen.agg (.cons (VRen.int _ _) (.cons (VRen.int _ _) (.cons (VRen.slice (show 0 < 2 by decide) rfl hcc1) .nil)))) (LRen.cons (VRen.agg (.cons (VRen.int _ _) (.cons (VRen.int _ _) (.cons (VRen.slice (show 1 < 2 by decide) rfl hcc2) .nil)))) .nil)
  · cases h

end Go.Ev.Dir

namespace Go.Ev.Dir
open Go.Ev Go.Proofs
set_option linter.unusedSectionVars false

/-- told functions by a list -/
def tellL : List (Nat × (List Value → Mem → Ret)) → FuncId → Option (List Value → Mem → Ret)
  | [], _ => none
  | x :: r, f => bif Nat.beq f x.1 then some x.2 else tellL r f
theorem tellL_ok [Atoms] {P : Program} {B : Nat → Prop} {w0 : World} : ∀ {l : List (Nat × (List Value → Mem → Ret))}, AllOf (fun x : Nat × (List Value → Mem → Ret) => CallOk P B w0 x.1 x.2) l → ∀ f g, tellL l f = some g → CallOk P B w0 f g
  | [], _, f, g, h => by cases h
  | x :: r, hl, f, g, h => by
    unfold tellL at h
    cases hf : Nat.beq f x.1 with
    | true =>
      rw [hf] at h
      have e := Nat.eq_of_beq_eq_true hf
      subst e
      simp only [cond_true, Option.some.injEq] at h
      subst h
      exact hl.1
    | false => rw [hf] at h; exact tellL_ok hl.2 f g h
noncomputable def callL (l : List (Nat × (List Value → Mem → Ret))) : CallF := callN ctx (tellL l) 6
theorem sndL [Atoms] {B : Nat → Prop} {w0 : World} {l : List (Nat × (List Value → Mem → Ret))} (hl : AllOf (fun x : Nat × (List Value → Mem → Ret) => CallOk Try.prog B w0 x.1 x.2) l) {nt fid : Nat} {c : Code} (hc : codeOk ctx masks nt fid c = true) : Sound Try.prog B w0 nt ctx (callL l) fid c :=
  sound_of ctx_ok eqs_ok mixed (M := masks) (fun f => calls_sound ctx_ok eqs_ok mixed funs_ok (tellL_ok hl) 6 f) hc

def ltS (a b : ByteArray) : Bool := strLess a.data.toList b.data.toList
def nilS : ByteArray := ⟨⟨[]⟩⟩
def isB (a b : ByteArray) : Bool := decide ((a.data.size : Int) ≤ 16) && (decide ((b.data.size : Int) ≤ 16) && (eqS b nilS || ltS a b))
def inB (a b k : ByteArray) : Bool := isB a b && (decide (1 ≤ (k.data.size : Int)) && (decide ((k.data.size : Int) ≤ 16) && (!ltS k a && (eqS b nilS || ltS k b))))
def cutB (a b k : ByteArray) : Bool := inB a b k && ltS a k
def joinB (a b c d : ByteArray) : Bool := isB a b && (isB c d && (!eqS b nilS && eqS b c))
def spanV (a b : ByteArray) : Value := .agg ⟨[.string a, .string b]⟩
def cutV (a b k : ByteArray) : Value := bif cutB a b k then .tuple ⟨[spanV a k, spanV k b, .bool true]⟩ else .tuple ⟨[spanV nilS nilS, spanV nilS nilS, .bool false]⟩
def joinV (a b c d : ByteArray) : Value := bif joinB a b c d then .tuple ⟨[spanV a d, .bool true]⟩ else .tuple ⟨[spanV nilS nilS, .bool false]⟩
theorem LRen.strs [Atoms] {σ : Nat → Nat} {k : Nat} {l : List Value} (h : l.all flat1 = true) : LRen σ k l l := LRen.same fun u hu => List.all_eq_true.1 h u hu
theorem Free.span [Atoms] (a b : ByteArray) : Free (spanV a b) := Free.agg fun u hu => by
  rcases List.mem_cons.1 hu with rfl | hu
  · exact Free.flat rfl
  · rcases List.mem_cons.1 hu with rfl | hu
    · exact Free.flat rfl
    · cases hu
theorem Free.cut [Atoms] (a b k : ByteArray) : Free (cutV a b k) := by
  unfold cutV
  cases cutB a b k <;> refine Free.tuple fun u hu => ?_ <;> simp only [List.mem_cons, List.not_mem_nil, or_false] at hu <;> rcases hu with rfl | rfl | rfl <;> first | exact Free.span _ _ | exact Free.flat rfl
theorem Free.join [Atoms] (a b c d : ByteArray) : Free (joinV a b c d) := by
  unfold joinV
  cases joinB a b c d <;> refine Free.tuple fun u hu => ?_ <;> simp only [List.mem_cons, List.not_mem_nil, or_false] at hu <;> rcases hu with rfl | rfl <;> first | exact Free.span _ _ | exact Free.flat rfl

def TIs (args : List Value) (_ : Mem) : Option Value := match args with
  | [.agg ⟨[.string a, .string b]⟩] => some (.bool (isB a b))
  | _ => none
def TIn (args : List Value) (_ : Mem) : Option Value := match args with
  | [.agg ⟨[.string a, .string b]⟩, .string k] => some (.bool (inB a b k))
  | _ => none
def TCut (args : List Value) (_ : Mem) : Option Value := match args with
  | [.agg ⟨[.string a, .string b]⟩, .string k] => some (cutV a b k)
  | _ => none
def TJoin (args : List Value) (_ : Mem) : Option Value := match args with
  | [.agg ⟨[.string a, .string b]⟩, .agg ⟨[.string c, .string d]⟩] => some (joinV a b c d)
  | _ => none

noncomputable def b91 : Code := bodyOf Try.f91
theorem b91_body : Try.f91.body = some b91 := by kernel_rfl
noncomputable def r91_0 : Array Oper := rOps (sA b91)
noncomputable def r91_1 : Array Oper := rOps (sA (sB b91))
theorem b91_eq : b91 = .seq (.region 0 r91_0 false) (.seq (.region 1 r91_1 false) .ret) := by kernel_rfl
theorem ret91 : Try.f91.results.toList = [.tmp 2] := by kernel_rfl
theorem hr91_1_0_3 : r91_1.toList.drop 3 = (r91_1.toList.drop 3).headD default :: r91_1.toList.drop 4 := by kernel_rfl
theorem hr91_1_4_4 : (r91_1.toList.drop 4).drop 4 = ((r91_1.toList.drop 4).drop 4).headD default :: r91_1.toList.drop 9 := by kernel_rfl
theorem hr91_1_9_4 : (r91_1.toList.drop 9).drop 4 = ((r91_1.toList.drop 9).drop 4).headD default :: r91_1.toList.drop 14 := by kernel_rfl
theorem hr91_1_14_5 : (r91_1.toList.drop 14).drop 5 = ((r91_1.toList.drop 14).drop 5).headD default :: r91_1.toList.drop 20 := by kernel_rfl
theorem hf91 [Atoms] (a b : ByteArray) : HF Try.prog ctx Try.f91 [spanV a b] ⟨.leaf, 0⟩ fun v _ => v = .bool (isB a b) := by
  intro B w0
  show HL _ _ _ _ b91 _ _ _
  rw [b91_eq]
  refine HL.seq (HL.reg (C := ctx) (call := callF73) (fid := 91) (snd73 (by kernel_rfl)) (OpsP.rest (by kernel_rfl) ?_))
  refine HL.seq (HL.reg (C := ctx) (call := callF73) (fid := 91) (snd73 (by kernel_rfl)) ?_)
  refine OpsP.take 3 (by kernel_rfl) (OpsP.boolAt 6 hr91_1_0_3 (by kernel_rfl) fun b0 hb0 => ?_)
  have e0 : decide ((a.data.size : Int) ≤ 16) = b0 := Eq.trans (by kernel_rfl) hb0
  clear hb0
  cases b0 with
  | false =>
    refine OpsP.rest (by kernel_rfl) (HL.ret ?_)
    exact Ends.ret1 (C := ctx) (R := fun v _ => v = .bool (isB a b)) ret91 (v := .bool false) (by kernel_rfl) (by unfold isB; simp only [e0]; rfl)
  | true =>
    refine OpsP.take 4 (by kernel_rfl) (OpsP.boolAt 11 hr91_1_4_4 (by kernel_rfl) fun b1 hb1 => ?_)
    have e1 : decide ((b.data.size : Int) ≤ 16) = b1 := Eq.trans (by kernel_rfl) hb1
    clear hb1
    cases b1 with
    | false =>
      refine OpsP.rest (by kernel_rfl) (HL.ret ?_)
      exact Ends.ret1 (C := ctx) (R := fun v _ => v = .bool (isB a b)) ret91 (v := .bool false) (by kernel_rfl) (by unfold isB; simp only [e0, e1]; rfl)
    | true =>
      refine OpsP.take 4 (by kernel_rfl) (OpsP.boolAt 16 hr91_1_9_4 (by kernel_rfl) fun b2 hb2 => ?_)
      have e2 : eqS b nilS = b2 := Eq.trans (by kernel_rfl) hb2
      clear hb2
      cases b2 with
      | false =>
        refine OpsP.take 5 (by kernel_rfl) (OpsP.boolAt 22 hr91_1_14_5 (by kernel_rfl) fun b3 hb3 => ?_)
        have e3 : ltS a b = b3 := Eq.trans (by kernel_rfl) hb3
        clear hb3
        cases b3 with
        | false =>
          refine OpsP.rest (by kernel_rfl) (HL.ret ?_)
          exact Ends.ret1 (C := ctx) (R := fun v _ => v = .bool (isB a b)) ret91 (v := .bool false) (by kernel_rfl) (by unfold isB; simp only [e0, e1, e2, e3]; rfl)
        | true =>
          refine OpsP.rest (by kernel_rfl) (HL.ret ?_)
          exact Ends.ret1 (C := ctx) (R := fun v _ => v = .bool (isB a b)) ret91 (v := .bool true) (by kernel_rfl) (by unfold isB; simp only [e0, e1, e2, e3]; rfl)
      | true =>
        refine OpsP.rest (by kernel_rfl) (HL.ret ?_)
        exact Ends.ret1 (C := ctx) (R := fun v _ => v = .bool (isB a b)) ret91 (v := .bool true) (by kernel_rfl) (by unfold isB; simp only [e0, e1, e2]; rfl)

theorem ok91 [Atoms] (B : Nat → Prop) (w0 : World) : CallOk Try.prog B w0 91 (toldR TIs) := by
  refine CallOk.reads ctx_ok (P := Try.prog) (C := ctx) Try.func91 (by kernel_rfl) b91_body fun args m v h => ?_
  unfold TIs at h
  split at h
  · rename_i a b
    simp only [Option.some.injEq] at h
    subst h
    exact ⟨Free.flat rfl, fun _ => 0, ⟨.leaf, 0⟩, [spanV a b], fun i hi => absurd hi (Nat.not_lt_zero i), .cons (VRen.agg (LRen.strs rfl)) .nil, Nat.le_of_ble_eq_true (by kernel_rfl), hf91 a b⟩
  · cases h

noncomputable def b53 : Code := bodyOf Try.f53
theorem b53_body : Try.f53.body = some b53 := by kernel_rfl
noncomputable def r53_0 : Array Oper := rOps (sA b53)
noncomputable def r53_1 : Array Oper := rOps (sA (sB b53))
theorem b53_eq : b53 = .seq (.region 0 r53_0 false) (.seq (.region 1 r53_1 false) .ret) := by kernel_rfl
theorem ret53 : Try.f53.results.toList = [.tmp 4] := by kernel_rfl
theorem hr53_1_0_1 : r53_1.toList.drop 1 = (r53_1.toList.drop 1).headD default :: r53_1.toList.drop 2 := by kernel_rfl
theorem hr53_1_2_3 : (r53_1.toList.drop 2).drop 3 = ((r53_1.toList.drop 2).drop 3).headD default :: r53_1.toList.drop 6 := by kernel_rfl
theorem hr53_1_6_4 : (r53_1.toList.drop 6).drop 4 = ((r53_1.toList.drop 6).drop 4).headD default :: r53_1.toList.drop 11 := by kernel_rfl
theorem hr53_1_11_5 : (r53_1.toList.drop 11).drop 5 = ((r53_1.toList.drop 11).drop 5).headD default :: r53_1.toList.drop 17 := by kernel_rfl
theorem hr53_1_17_4 : (r53_1.toList.drop 17).drop 4 = ((r53_1.toList.drop 17).drop 4).headD default :: r53_1.toList.drop 22 := by kernel_rfl
theorem hr53_1_22_4 : (r53_1.toList.drop 22).drop 4 = ((r53_1.toList.drop 22).drop 4).headD default :: r53_1.toList.drop 27 := by kernel_rfl
theorem hf53 [Atoms] (a b k : ByteArray) : HF Try.prog ctx Try.f53 [spanV a b, .string k] ⟨.leaf, 0⟩ fun v _ => v = .bool (inB a b k) := by
  intro B w0
  show HL _ _ _ _ b53 _ _ _
  rw [b53_eq]
  refine HL.seq (HL.reg (C := ctx) (call := callL [(91, toldR TIs)]) (fid := 53) (sndL (l := [(91, toldR TIs)]) ⟨ok91 _ _, trivial⟩ (by kernel_rfl)) (OpsP.rest (by kernel_rfl) ?_))
  refine HL.seq (HL.reg (C := ctx) (call := callL [(91, toldR TIs)]) (fid := 53) (sndL (l := [(91, toldR TIs)]) ⟨ok91 _ _, trivial⟩ (by kernel_rfl)) ?_)
  refine OpsP.take 1 (by kernel_rfl) (OpsP.boolAt 6 hr53_1_0_1 (by kernel_rfl) fun b0 hb0 => ?_)
  have e0 : isB a b = b0 := Eq.trans (by kernel_rfl) hb0
  clear hb0
  cases b0 with
  | false =>
    refine OpsP.rest (by kernel_rfl) (HL.ret ?_)
    exact Ends.ret1 (C := ctx) (R := fun v _ => v = .bool (inB a b k)) ret53 (v := .bool false) (by kernel_rfl) (by unfold inB; simp only [e0]; rfl)
  | true =>
    refine OpsP.take 3 (by kernel_rfl) (OpsP.boolAt 10 hr53_1_2_3 (by kernel_rfl) fun b1 hb1 => ?_)
    have e1 : decide (1 ≤ (k.data.size : Int)) = b1 := Eq.trans (by kernel_rfl) hb1
    clear hb1
    cases b1 with
    | false =>
      refine OpsP.rest (by kernel_rfl) (HL.ret ?_)
      exact Ends.ret1 (C := ctx) (R := fun v _ => v = .bool (inB a b k)) ret53 (v := .bool false) (by kernel_rfl) (by unfold inB; simp only [e0, e1]; rfl)
    | true =>
      refine OpsP.take 4 (by kernel_rfl) (OpsP.boolAt 15 hr53_1_6_4 (by kernel_rfl) fun b2 hb2 => ?_)
      have e2 : decide ((k.data.size : Int) ≤ 16) = b2 := Eq.trans (by kernel_rfl) hb2
      clear hb2
      cases b2 with
      | false =>
        refine OpsP.rest (by kernel_rfl) (HL.ret ?_)
        exact Ends.ret1 (C := ctx) (R := fun v _ => v = .bool (inB a b k)) ret53 (v := .bool false) (by kernel_rfl) (by unfold inB; simp only [e0, e1, e2]; rfl)
      | true =>
        refine OpsP.take 5 (by kernel_rfl) (OpsP.boolAt 21 hr53_1_11_5 (by kernel_rfl) fun b3 hb3 => ?_)
        have e3 : (!ltS k a) = b3 := Eq.trans (by kernel_rfl) hb3
        clear hb3
        cases b3 with
        | false =>
          refine OpsP.rest (by kernel_rfl) (HL.ret ?_)
          exact Ends.ret1 (C := ctx) (R := fun v _ => v = .bool (inB a b k)) ret53 (v := .bool false) (by kernel_rfl) (by unfold inB; simp only [e0, e1, e2, e3]; rfl)
        | true =>
          refine OpsP.take 4 (by kernel_rfl) (OpsP.boolAt 26 hr53_1_17_4 (by kernel_rfl) fun b4 hb4 => ?_)
          have e4 : eqS b nilS = b4 := Eq.trans (by kernel_rfl) hb4
          clear hb4
          cases b4 with
          | false =>
            refine OpsP.take 4 (by kernel_rfl) (OpsP.boolAt 31 hr53_1_22_4 (by kernel_rfl) fun b5 hb5 => ?_)
            have e5 : ltS k b = b5 := Eq.trans (by kernel_rfl) hb5
            clear hb5
            cases b5 with
            | false =>
              refine OpsP.rest (by kernel_rfl) (HL.ret ?_)
              exact Ends.ret1 (C := ctx) (R := fun v _ => v = .bool (inB a b k)) ret53 (v := .bool false) (by kernel_rfl) (by unfold inB; simp only [e0, e1, e2, e3, e4, e5]; rfl)
            | true =>
              refine OpsP.rest (by kernel_rfl) (HL.ret ?_)
              exact Ends.ret1 (C := ctx) (R := fun v _ => v = .bool (inB a b k)) ret53 (v := .bool true) (by kernel_rfl) (by unfold inB; simp only [e0, e1, e2, e3, e4, e5]; rfl)
          | true =>
            refine OpsP.rest (by kernel_rfl) (HL.ret ?_)
            exact Ends.ret1 (C := ctx) (R := fun v _ => v = .bool (inB a b k)) ret53 (v := .bool true) (by kernel_rfl) (by unfold inB; simp only [e0, e1, e2, e3, e4]; rfl)

theorem ok53 [Atoms] (B : Nat → Prop) (w0 : World) : CallOk Try.prog B w0 53 (toldR TIn) := by
  refine CallOk.reads ctx_ok (P := Try.prog) (C := ctx) Try.func53 (by kernel_rfl) b53_body fun args m v h => ?_
  unfold TIn at h
  split at h
  · rename_i a b k
    simp only [Option.some.injEq] at h
    subst h
    exact ⟨Free.flat rfl, fun _ => 0, ⟨.leaf, 0⟩, [spanV a b, .string k], fun i hi => absurd hi (Nat.not_lt_zero i), .cons (VRen.agg (LRen.strs rfl)) (.cons (VRen.string _) .nil), Nat.le_of_ble_eq_true (by kernel_rfl), hf53 a b k⟩
  · cases h

noncomputable def b75 : Code := bodyOf Try.f75
theorem b75_body : Try.f75.body = some b75 := by kernel_rfl
noncomputable def r75_0 : Array Oper := rOps (sA b75)
noncomputable def r75_1 : Array Oper := rOps (sA (sA (sB b75)))
noncomputable def r75_2 : Array Oper := rOps (sA (ifA (sB (sA (sB b75)))))
noncomputable def r75_3 : Array Oper := rOps (sA (sB (sB b75)))
theorem b75_eq : b75 = .seq (.region 0 r75_0 false) (.seq (.seq (.region 1 r75_1 false) (.cond (.tmp 16) (.seq (.region 2 r75_2 false) .ret) .skip)) (.seq (.region 3 r75_3 true) .ret)) := by kernel_rfl
theorem plan75_3 : ctx.plans 75 3 = some ⟨[0, 1, 2, 3, 4, 5, 6, 7], [1, 6], [⟨8, [], [6]⟩, ⟨9, [], []⟩, ⟨10, [], []⟩]⟩ := by kernel_rfl
theorem hr75_1_0_2 : r75_1.toList.drop 2 = (r75_1.toList.drop 2).headD default :: r75_1.toList.drop 3 := by kernel_rfl
theorem hr75_1_3_5 : (r75_1.toList.drop 3).drop 5 = ((r75_1.toList.drop 3).drop 5).headD default :: r75_1.toList.drop 9 := by kernel_rfl
theorem hf75 [Atoms] (a b k : ByteArray) : HF Try.prog ctx Try.f75 [spanV a b, .string k] ⟨.leaf, 0⟩ fun v _ => v = cutV a b k := by
  intro B w0
  show HL _ _ _ _ b75 _ _ _
  rw [b75_eq]
  refine HL.seq (HL.reg (C := ctx) (call := callL [(53, toldR TIn)]) (fid := 75) (sndL (l := [(53, toldR TIn)]) ⟨ok53 _ _, trivial⟩ (by kernel_rfl)) (OpsP.rest (by kernel_rfl) ?_))
  refine HL.seq (HL.seq (HL.reg (C := ctx) (call := callL [(53, toldR TIn)]) (fid := 75) (sndL (l := [(53, toldR TIn)]) ⟨ok53 _ _, trivial⟩ (by kernel_rfl)) ?_))
  refine OpsP.take 2 (by kernel_rfl) (OpsP.boolAt 9 hr75_1_0_2 (by kernel_rfl) fun b0 hb0 => ?_)
  have e0 : inB a b k = b0 := Eq.trans (by kernel_rfl) hb0
  clear hb0
  cases b0 with
  | false =>
    refine OpsP.rest (by kernel_rfl) (HL.cond (t := true) (by kernel_rfl) rfl (fun _ => ?_) fun h => by cases h)
    refine HL.seq (HL.reg (C := ctx) (call := callL [(53, toldR TIn)]) (fid := 75) (sndL (l := [(53, toldR TIn)]) ⟨ok53 _ _, trivial⟩ (by kernel_rfl)) (OpsP.rest (by kernel_rfl) (HL.ret ?_)))
    exact Ends.ret (C := ctx) (R := fun v _ => v = cutV a b k) (l := [spanV nilS nilS, spanV nilS nilS, .bool false]) (by kernel_rfl) (by unfold cutV cutB; rw [e0]; rfl)
  | true =>
    refine OpsP.take 5 (by kernel_rfl) (OpsP.boolAt 15 hr75_1_3_5 (by kernel_rfl) fun b1 hb1 => ?_)
    have e1 : (!ltS a k) = b1 := Eq.trans (by kernel_rfl) hb1
    clear hb1
    cases b1 with
    | false =>
      refine OpsP.rest (by kernel_rfl) (HL.cond (t := false) (by kernel_rfl) rfl (fun h => by cases h) fun _ => HL.skip ?_)
      refine HL.seq (HL.run (C := ctx) (call := callL [(53, toldR TIn)]) (fid := 75) (sndL (l := [(53, toldR TIn)]) ⟨ok53 _ _, trivial⟩ (by kernel_rfl)) (RunP.plan plan75_3 (by kernel_rfl) (by kernel_rfl) (OpsP.rest (by kernel_rfl) ⟨?_, ?_⟩)))
      · exact again_k (v := .string a) (d := 20) (by kernel_rfl) (by kernel_rfl) (by kernel_rfl) (by kernel_rfl) (by kernel_rfl) (veq_string _) (again_k (v := .string b) (d := 25) (by kernel_rfl) (by kernel_rfl) (by kernel_rfl) (by kernel_rfl) (by kernel_rfl) (veq_string _) again_nil)
      · refine OpsP.rest (by kernel_rfl) ⟨again_k (v := .string b) (d := 25) (by kernel_rfl) (by kernel_rfl) (by kernel_rfl) (by kernel_rfl) (by kernel_rfl) (veq_string _) again_nil, ?_⟩
        refine OpsP.rest (by kernel_rfl) ⟨again_nil, ?_⟩
        refine OpsP.rest (by kernel_rfl) ⟨again_nil, ?_⟩
        refine HL.ret ?_
        exact Ends.ret (C := ctx) (R := fun v _ => v = cutV a b k) (l := [spanV a k, spanV k b, .bool true]) (by kernel_rfl) (by unfold cutV cutB; rw [e0, (by simpa using e1 : ltS a k = true)]; rfl)
    | true =>
      refine OpsP.rest (by kernel_rfl) (HL.cond (t := true) (by kernel_rfl) rfl (fun _ => ?_) fun h => by cases h)
      refine HL.seq (HL.reg (C := ctx) (call := callL [(53, toldR TIn)]) (fid := 75) (sndL (l := [(53, toldR TIn)]) ⟨ok53 _ _, trivial⟩ (by kernel_rfl)) (OpsP.rest (by kernel_rfl) (HL.ret ?_)))
      exact Ends.ret (C := ctx) (R := fun v _ => v = cutV a b k) (l := [spanV nilS nilS, spanV nilS nilS, .bool false]) (by kernel_rfl) (by unfold cutV cutB; rw [e0, (by simpa using e1 : ltS a k = false)]; rfl)

theorem ok75 [Atoms] (B : Nat → Prop) (w0 : World) : CallOk Try.prog B w0 75 (toldR TCut) := by
  refine CallOk.reads ctx_ok (P := Try.prog) (C := ctx) Try.func75 (by kernel_rfl) b75_body fun args m v h => ?_
  unfold TCut at h
  split at h
  · rename_i a b k
    simp only [Option.some.injEq] at h
    subst h
    exact ⟨Free.cut a b k, fun _ => 0, ⟨.leaf, 0⟩, [spanV a b, .string k], fun i hi => absurd hi (Nat.not_lt_zero i), .cons (VRen.agg (LRen.strs rfl)) (.cons (VRen.string _) .nil), Nat.le_of_ble_eq_true (by kernel_rfl), hf75 a b k⟩
  · cases h

noncomputable def b80 : Code := bodyOf Try.f80
theorem b80_body : Try.f80.body = some b80 := by kernel_rfl
noncomputable def r80_0 : Array Oper := rOps (sA b80)
noncomputable def r80_1 : Array Oper := rOps (sA (sA (sB b80)))
noncomputable def r80_2 : Array Oper := rOps (sA (ifA (sB (sA (sB b80)))))
noncomputable def r80_3 : Array Oper := rOps (sA (sB (sB b80)))
theorem b80_eq : b80 = .seq (.region 0 r80_0 false) (.seq (.seq (.region 1 r80_1 false) (.cond (.tmp 25) (.seq (.region 2 r80_2 false) .ret) .skip)) (.seq (.region 3 r80_3 false) .ret)) := by kernel_rfl
theorem hr80_1_0_1 : r80_1.toList.drop 1 = (r80_1.toList.drop 1).headD default :: r80_1.toList.drop 2 := by kernel_rfl
theorem hr80_1_2_3 : (r80_1.toList.drop 2).drop 3 = ((r80_1.toList.drop 2).drop 3).headD default :: r80_1.toList.drop 6 := by kernel_rfl
theorem hr80_1_6_5 : (r80_1.toList.drop 6).drop 5 = ((r80_1.toList.drop 6).drop 5).headD default :: r80_1.toList.drop 12 := by kernel_rfl
theorem hr80_1_12_6 : (r80_1.toList.drop 12).drop 6 = ((r80_1.toList.drop 12).drop 6).headD default :: r80_1.toList.drop 19 := by kernel_rfl
theorem hf80 [Atoms] (a b c d : ByteArray) : HF Try.prog ctx Try.f80 [spanV a b, spanV c d] ⟨.leaf, 0⟩ fun v _ => v = joinV a b c d := by
  intro B w0
  show HL _ _ _ _ b80 _ _ _
  rw [b80_eq]
  refine HL.seq (HL.reg (C := ctx) (call := callL [(91, toldR TIs)]) (fid := 80) (sndL (l := [(91, toldR TIs)]) ⟨ok91 _ _, trivial⟩ (by kernel_rfl)) (OpsP.rest (by kernel_rfl) ?_))
  refine HL.seq (HL.seq (HL.reg (C := ctx) (call := callL [(91, toldR TIs)]) (fid := 80) (sndL (l := [(91, toldR TIs)]) ⟨ok91 _ _, trivial⟩ (by kernel_rfl)) ?_))
  refine OpsP.take 1 (by kernel_rfl) (OpsP.boolAt 7 hr80_1_0_1 (by kernel_rfl) fun b0 hb0 => ?_)
  have e0 : isB a b = b0 := Eq.trans (by kernel_rfl) hb0
  clear hb0
  cases b0 with
  | false =>
    refine OpsP.rest (by kernel_rfl) (HL.cond (t := true) (by kernel_rfl) rfl (fun _ => ?_) fun h => by cases h)
    refine HL.seq (HL.reg (C := ctx) (call := callL [(91, toldR TIs)]) (fid := 80) (sndL (l := [(91, toldR TIs)]) ⟨ok91 _ _, trivial⟩ (by kernel_rfl)) (OpsP.rest (by kernel_rfl) (HL.ret ?_)))
    exact Ends.ret (C := ctx) (R := fun v _ => v = joinV a b c d) (l := [spanV nilS nilS, .bool false]) (by kernel_rfl) (by unfold joinV joinB; rw [e0]; rfl)
  | true =>
    refine OpsP.take 3 (by kernel_rfl) (OpsP.boolAt 11 hr80_1_2_3 (by kernel_rfl) fun b1 hb1 => ?_)
    have e1 : isB c d = b1 := Eq.trans (by kernel_rfl) hb1
    clear hb1
    cases b1 with
    | false =>
      refine OpsP.rest (by kernel_rfl) (HL.cond (t := true) (by kernel_rfl) rfl (fun _ => ?_) fun h => by cases h)
      refine HL.seq (HL.reg (C := ctx) (call := callL [(91, toldR TIs)]) (fid := 80) (sndL (l := [(91, toldR TIs)]) ⟨ok91 _ _, trivial⟩ (by kernel_rfl)) (OpsP.rest (by kernel_rfl) (HL.ret ?_)))
      exact Ends.ret (C := ctx) (R := fun v _ => v = joinV a b c d) (l := [spanV nilS nilS, .bool false]) (by kernel_rfl) (by unfold joinV joinB; rw [e0, e1]; rfl)
    | true =>
      refine OpsP.take 5 (by kernel_rfl) (OpsP.boolAt 17 hr80_1_6_5 (by kernel_rfl) fun b2 hb2 => ?_)
      have e2 : eqS b nilS = b2 := Eq.trans (by kernel_rfl) hb2
      clear hb2
      cases b2 with
      | false =>
        refine OpsP.take 6 (by kernel_rfl) (OpsP.boolAt 24 hr80_1_12_6 (by kernel_rfl) fun b3 hb3 => ?_)
        have e3 : (!eqS b c) = b3 := Eq.trans (by kernel_rfl) hb3
        clear hb3
        cases b3 with
        | false =>
          refine OpsP.rest (by kernel_rfl) (HL.cond (t := false) (by kernel_rfl) rfl (fun h => by cases h) fun _ => HL.skip ?_)
          refine HL.seq (HL.reg (C := ctx) (call := callL [(91, toldR TIs)]) (fid := 80) (sndL (l := [(91, toldR TIs)]) ⟨ok91 _ _, trivial⟩ (by kernel_rfl)) (OpsP.rest (by kernel_rfl) (HL.ret ?_)))
          exact Ends.ret (C := ctx) (R := fun v _ => v = joinV a b c d) (l := [spanV a d, .bool true]) (by kernel_rfl) (by unfold joinV joinB; rw [e0, e1, e2, (by simpa using e3 : eqS b c = true)]; rfl)
        | true =>
          refine OpsP.rest (by kernel_rfl) (HL.cond (t := true) (by kernel_rfl) rfl (fun _ => ?_) fun h => by cases h)
          refine HL.seq (HL.reg (C := ctx) (call := callL [(91, toldR TIs)]) (fid := 80) (sndL (l := [(91, toldR TIs)]) ⟨ok91 _ _, trivial⟩ (by kernel_rfl)) (OpsP.rest (by kernel_rfl) (HL.ret ?_)))
          exact Ends.ret (C := ctx) (R := fun v _ => v = joinV a b c d) (l := [spanV nilS nilS, .bool false]) (by kernel_rfl) (by unfold joinV joinB; rw [e0, e1, e2, (by simpa using e3 : eqS b c = false)]; rfl)
      | true =>
        refine OpsP.rest (by kernel_rfl) (HL.cond (t := true) (by kernel_rfl) rfl (fun _ => ?_) fun h => by cases h)
        refine HL.seq (HL.reg (C := ctx) (call := callL [(91, toldR TIs)]) (fid := 80) (sndL (l := [(91, toldR TIs)]) ⟨ok91 _ _, trivial⟩ (by kernel_rfl)) (OpsP.rest (by kernel_rfl) (HL.ret ?_)))
        exact Ends.ret (C := ctx) (R := fun v _ => v = joinV a b c d) (l := [spanV nilS nilS, .bool false]) (by kernel_rfl) (by unfold joinV joinB; rw [e0, e1, e2]; rfl)

theorem ok80 [Atoms] (B : Nat → Prop) (w0 : World) : CallOk Try.prog B w0 80 (toldR TJoin) := by
  refine CallOk.reads ctx_ok (P := Try.prog) (C := ctx) Try.func80 (by kernel_rfl) b80_body fun args m v h => ?_
  unfold TJoin at h
  split at h
  · rename_i a b c d
    simp only [Option.some.injEq] at h
    subst h
    exact ⟨Free.join a b c d, fun _ => 0, ⟨.leaf, 0⟩, [spanV a b, spanV c d], fun i hi => absurd hi (Nat.not_lt_zero i), .cons (VRen.agg (LRen.strs rfl)) (.cons (VRen.agg (LRen.strs rfl)) .nil), Nat.le_of_ble_eq_true (by kernel_rfl), hf80 a b c d⟩
  · cases h

noncomputable def b44 : Code := bodyOf Try.f44
theorem b44_body : Try.f44.body = some b44 := by kernel_rfl
noncomputable def r44_0 : Array Oper := rOps (sA b44)
noncomputable def r44_1 : Array Oper := rOps (sA (sB b44))
theorem b44_eq : b44 = .seq (.region 0 r44_0 false) (.seq (.region 1 r44_1 false) .ret) := by kernel_rfl
theorem ret44 : Try.f44.results.toList = [.tmp 2] := by kernel_rfl
theorem hr44_1_0_3 : r44_1.toList.drop 3 = (r44_1.toList.drop 3).headD default :: r44_1.toList.drop 4 := by kernel_rfl
theorem hr44_1_4_4 : (r44_1.toList.drop 4).drop 4 = ((r44_1.toList.drop 4).drop 4).headD default :: r44_1.toList.drop 9 := by kernel_rfl
theorem hr44_1_9_4 : (r44_1.toList.drop 9).drop 4 = ((r44_1.toList.drop 9).drop 4).headD default :: r44_1.toList.drop 14 := by kernel_rfl
theorem hr44_1_14_5 : (r44_1.toList.drop 14).drop 5 = ((r44_1.toList.drop 14).drop 5).headD default :: r44_1.toList.drop 20 := by kernel_rfl
theorem hf44 [Atoms] (a b : ByteArray) : HF Try.prog ctx Try.f44 [spanV a b] ⟨.leaf, 0⟩ fun v _ => v = .bool (isB a b) := by
  intro B w0
  show HL _ _ _ _ b44 _ _ _
  rw [b44_eq]
  refine HL.seq (HL.reg (C := ctx) (call := callF73) (fid := 44) (snd73 (by kernel_rfl)) (OpsP.rest (by kernel_rfl) ?_))
  refine HL.seq (HL.reg (C := ctx) (call := callF73) (fid := 44) (snd73 (by kernel_rfl)) ?_)
  refine OpsP.take 3 (by kernel_rfl) (OpsP.boolAt 6 hr44_1_0_3 (by kernel_rfl) fun b0 hb0 => ?_)
  have e0 : decide ((a.data.size : Int) ≤ 16) = b0 := Eq.trans (by kernel_rfl) hb0
  clear hb0
  cases b0 with
  | false =>
    refine OpsP.rest (by kernel_rfl) (HL.ret ?_)
    exact Ends.ret1 (C := ctx) (R := fun v _ => v = .bool (isB a b)) ret44 (v := .bool false) (by kernel_rfl) (by unfold isB; simp only [e0]; rfl)
  | true =>
    refine OpsP.take 4 (by kernel_rfl) (OpsP.boolAt 11 hr44_1_4_4 (by kernel_rfl) fun b1 hb1 => ?_)
    have e1 : decide ((b.data.size : Int) ≤ 16) = b1 := Eq.trans (by kernel_rfl) hb1
    clear hb1
    cases b1 with
    | false =>
      refine OpsP.rest (by kernel_rfl) (HL.ret ?_)
      exact Ends.ret1 (C := ctx) (R := fun v _ => v = .bool (isB a b)) ret44 (v := .bool false) (by kernel_rfl) (by unfold isB; simp only [e0, e1]; rfl)
    | true =>
      refine OpsP.take 4 (by kernel_rfl) (OpsP.boolAt 16 hr44_1_9_4 (by kernel_rfl) fun b2 hb2 => ?_)
      have e2 : eqS b nilS = b2 := Eq.trans (by kernel_rfl) hb2
      clear hb2
      cases b2 with
      | false =>
        refine OpsP.take 5 (by kernel_rfl) (OpsP.boolAt 22 hr44_1_14_5 (by kernel_rfl) fun b3 hb3 => ?_)
        have e3 : ltS a b = b3 := Eq.trans (by kernel_rfl) hb3
        clear hb3
        cases b3 with
        | false =>
          refine OpsP.rest (by kernel_rfl) (HL.ret ?_)
          exact Ends.ret1 (C := ctx) (R := fun v _ => v = .bool (isB a b)) ret44 (v := .bool false) (by kernel_rfl) (by unfold isB; simp only [e0, e1, e2, e3]; rfl)
        | true =>
          refine OpsP.rest (by kernel_rfl) (HL.ret ?_)
          exact Ends.ret1 (C := ctx) (R := fun v _ => v = .bool (isB a b)) ret44 (v := .bool true) (by kernel_rfl) (by unfold isB; simp only [e0, e1, e2, e3]; rfl)
      | true =>
        refine OpsP.rest (by kernel_rfl) (HL.ret ?_)
        exact Ends.ret1 (C := ctx) (R := fun v _ => v = .bool (isB a b)) ret44 (v := .bool true) (by kernel_rfl) (by unfold isB; simp only [e0, e1, e2]; rfl)

theorem ok44 [Atoms] (B : Nat → Prop) (w0 : World) : CallOk Try.prog B w0 44 (toldR TIs) := by
  refine CallOk.reads ctx_ok (P := Try.prog) (C := ctx) Try.func44 (by kernel_rfl) b44_body fun args m v h => ?_
  unfold TIs at h
  split at h
  · rename_i a b
    simp only [Option.some.injEq] at h
    subst h
    exact ⟨Free.flat rfl, fun _ => 0, ⟨.leaf, 0⟩, [spanV a b], fun i hi => absurd hi (Nat.not_lt_zero i), .cons (VRen.agg (LRen.strs rfl)) .nil, Nat.le_of_ble_eq_true (by kernel_rfl), hf44 a b⟩
  · cases h

noncomputable def b18 : Code := bodyOf Try.f18
theorem b18_body : Try.f18.body = some b18 := by kernel_rfl
noncomputable def r18_0 : Array Oper := rOps (sA b18)
noncomputable def r18_1 : Array Oper := rOps (sA (sB b18))
theorem b18_eq : b18 = .seq (.region 0 r18_0 false) (.seq (.region 1 r18_1 false) .ret) := by kernel_rfl
theorem ret18 : Try.f18.results.toList = [.tmp 4] := by kernel_rfl
theorem hr18_1_0_1 : r18_1.toList.drop 1 = (r18_1.toList.drop 1).headD default :: r18_1.toList.drop 2 := by kernel_rfl
theorem hr18_1_2_3 : (r18_1.toList.drop 2).drop 3 = ((r18_1.toList.drop 2).drop 3).headD default :: r18_1.toList.drop 6 := by kernel_rfl
theorem hr18_1_6_4 : (r18_1.toList.drop 6).drop 4 = ((r18_1.toList.drop 6).drop 4).headD default :: r18_1.toList.drop 11 := by kernel_rfl
theorem hr18_1_11_5 : (r18_1.toList.drop 11).drop 5 = ((r18_1.toList.drop 11).drop 5).headD default :: r18_1.toList.drop 17 := by kernel_rfl
theorem hr18_1_17_4 : (r18_1.toList.drop 17).drop 4 = ((r18_1.toList.drop 17).drop 4).headD default :: r18_1.toList.drop 22 := by kernel_rfl
theorem hr18_1_22_4 : (r18_1.toList.drop 22).drop 4 = ((r18_1.toList.drop 22).drop 4).headD default :: r18_1.toList.drop 27 := by kernel_rfl
theorem hf18 [Atoms] (a b k : ByteArray) : HF Try.prog ctx Try.f18 [spanV a b, .string k] ⟨.leaf, 0⟩ fun v _ => v = .bool (inB a b k) := by
  intro B w0
  show HL _ _ _ _ b18 _ _ _
  rw [b18_eq]
  refine HL.seq (HL.reg (C := ctx) (call := callL [(44, toldR TIs)]) (fid := 18) (sndL (l := [(44, toldR TIs)]) ⟨ok44 _ _, trivial⟩ (by kernel_rfl)) (OpsP.rest (by kernel_rfl) ?_))
  refine HL.seq (HL.reg (C := ctx) (call := callL [(44, toldR TIs)]) (fid := 18) (sndL (l := [(44, toldR TIs)]) ⟨ok44 _ _, trivial⟩ (by kernel_rfl)) ?_)
  refine OpsP.take 1 (by kernel_rfl) (OpsP.boolAt 6 hr18_1_0_1 (by kernel_rfl) fun b0 hb0 => ?_)
  have e0 : isB a b = b0 := Eq.trans (by kernel_rfl) hb0
  clear hb0
  cases b0 with
  | false =>
    refine OpsP.rest (by kernel_rfl) (HL.ret ?_)
    exact Ends.ret1 (C := ctx) (R := fun v _ => v = .bool (inB a b k)) ret18 (v := .bool false) (by kernel_rfl) (by unfold inB; simp only [e0]; rfl)
  | true =>
    refine OpsP.take 3 (by kernel_rfl) (OpsP.boolAt 10 hr18_1_2_3 (by kernel_rfl) fun b1 hb1 => ?_)
    have e1 : decide (1 ≤ (k.data.size : Int)) = b1 := Eq.trans (by kernel_rfl) hb1
    clear hb1
    cases b1 with
    | false =>
      refine OpsP.rest (by kernel_rfl) (HL.ret ?_)
      exact Ends.ret1 (C := ctx) (R := fun v _ => v = .bool (inB a b k)) ret18 (v := .bool false) (by kernel_rfl) (by unfold inB; simp only [e0, e1]; rfl)
    | true =>
      refine OpsP.take 4 (by kernel_rfl) (OpsP.boolAt 15 hr18_1_6_4 (by kernel_rfl) fun b2 hb2 => ?_)
      have e2 : decide ((k.data.size : Int) ≤ 16) = b2 := Eq.trans (by kernel_rfl) hb2
      clear hb2
      cases b2 with
      | false =>
        refine OpsP.rest (by kernel_rfl) (HL.ret ?_)
        exact Ends.ret1 (C := ctx) (R := fun v _ => v = .bool (inB a b k)) ret18 (v := .bool false) (by kernel_rfl) (by unfold inB; simp only [e0, e1, e2]; rfl)
      | true =>
        refine OpsP.take 5 (by kernel_rfl) (OpsP.boolAt 21 hr18_1_11_5 (by kernel_rfl) fun b3 hb3 => ?_)
        have e3 : (!ltS k a) = b3 := Eq.trans (by kernel_rfl) hb3
        clear hb3
        cases b3 with
        | false =>
          refine OpsP.rest (by kernel_rfl) (HL.ret ?_)
          exact Ends.ret1 (C := ctx) (R := fun v _ => v = .bool (inB a b k)) ret18 (v := .bool false) (by kernel_rfl) (by unfold inB; simp only [e0, e1, e2, e3]; rfl)
        | true =>
          refine OpsP.take 4 (by kernel_rfl) (OpsP.boolAt 26 hr18_1_17_4 (by kernel_rfl) fun b4 hb4 => ?_)
          have e4 : eqS b nilS = b4 := Eq.trans (by kernel_rfl) hb4
          clear hb4
          cases b4 with
          | false =>
            refine OpsP.take 4 (by kernel_rfl) (OpsP.boolAt 31 hr18_1_22_4 (by kernel_rfl) fun b5 hb5 => ?_)
            have e5 : ltS k b = b5 := Eq.trans (by kernel_rfl) hb5
            clear hb5
            cases b5 with
            | false =>
              refine OpsP.rest (by kernel_rfl) (HL.ret ?_)
              exact Ends.ret1 (C := ctx) (R := fun v _ => v = .bool (inB a b k)) ret18 (v := .bool false) (by kernel_rfl) (by unfold inB; simp only [e0, e1, e2, e3, e4, e5]; rfl)
            | true =>
              refine OpsP.rest (by kernel_rfl) (HL.ret ?_)
              exact Ends.ret1 (C := ctx) (R := fun v _ => v = .bool (inB a b k)) ret18 (v := .bool true) (by kernel_rfl) (by unfold inB; simp only [e0, e1, e2, e3, e4, e5]; rfl)
          | true =>
            refine OpsP.rest (by kernel_rfl) (HL.ret ?_)
            exact Ends.ret1 (C := ctx) (R := fun v _ => v = .bool (inB a b k)) ret18 (v := .bool true) (by kernel_rfl) (by unfold inB; simp only [e0, e1, e2, e3, e4]; rfl)

theorem ok18 [Atoms] (B : Nat → Prop) (w0 : World) : CallOk Try.prog B w0 18 (toldR TIn) := by
  refine CallOk.reads ctx_ok (P := Try.prog) (C := ctx) Try.func18 (by kernel_rfl) b18_body fun args m v h => ?_
  unfold TIn at h
  split at h
  · rename_i a b k
    simp only [Option.some.injEq] at h
    subst h
    exact ⟨Free.flat rfl, fun _ => 0, ⟨.leaf, 0⟩, [spanV a b, .string k], fun i hi => absurd hi (Nat.not_lt_zero i), .cons (VRen.agg (LRen.strs rfl)) (.cons (VRen.string _) .nil), Nat.le_of_ble_eq_true (by kernel_rfl), hf18 a b k⟩
  · cases h

noncomputable def b84 : Code := bodyOf Try.f84
theorem b84_body : Try.f84.body = some b84 := by kernel_rfl
noncomputable def r84_0 : Array Oper := rOps (sA b84)
noncomputable def r84_1 : Array Oper := rOps (sA (sA (sB b84)))
noncomputable def r84_2 : Array Oper := rOps (sA (ifA (sB (sA (sB b84)))))
noncomputable def r84_3 : Array Oper := rOps (sA (sB (sB b84)))
theorem b84_eq : b84 = .seq (.region 0 r84_0 false) (.seq (.seq (.region 1 r84_1 false) (.cond (.tmp 16) (.seq (.region 2 r84_2 false) .ret) .skip)) (.seq (.region 3 r84_3 true) .ret)) := by kernel_rfl
theorem plan84_3 : ctx.plans 84 3 = some ⟨[0, 1, 2, 3, 4, 5, 6, 7], [1, 6], [⟨8, [], [6]⟩, ⟨9, [], []⟩, ⟨10, [], []⟩]⟩ := by kernel_rfl
theorem hr84_1_0_2 : r84_1.toList.drop 2 = (r84_1.toList.drop 2).headD default :: r84_1.toList.drop 3 := by kernel_rfl
theorem hr84_1_3_5 : (r84_1.toList.drop 3).drop 5 = ((r84_1.toList.drop 3).drop 5).headD default :: r84_1.toList.drop 9 := by kernel_rfl
theorem hf84 [Atoms] (a b k : ByteArray) : HF Try.prog ctx Try.f84 [spanV a b, .string k] ⟨.leaf, 0⟩ fun v _ => v = cutV a b k := by
  intro B w0
  show HL _ _ _ _ b84 _ _ _
  rw [b84_eq]
  refine HL.seq (HL.reg (C := ctx) (call := callL [(18, toldR TIn)]) (fid := 84) (sndL (l := [(18, toldR TIn)]) ⟨ok18 _ _, trivial⟩ (by kernel_rfl)) (OpsP.rest (by kernel_rfl) ?_))
  refine HL.seq (HL.seq (HL.reg (C := ctx) (call := callL [(18, toldR TIn)]) (fid := 84) (sndL (l := [(18, toldR TIn)]) ⟨ok18 _ _, trivial⟩ (by kernel_rfl)) ?_))
  refine OpsP.take 2 (by kernel_rfl) (OpsP.boolAt 9 hr84_1_0_2 (by kernel_rfl) fun b0 hb0 => ?_)
  have e0 : inB a b k = b0 := Eq.trans (by kernel_rfl) hb0
  clear hb0
  cases b0 with
  | false =>
    refine OpsP.rest (by kernel_rfl) (HL.cond (t := true) (by kernel_rfl) rfl (fun _ => ?_) fun h => by cases h)
    refine HL.seq (HL.reg (C := ctx) (call := callL [(18, toldR TIn)]) (fid := 84) (sndL (l := [(18, toldR TIn)]) ⟨ok18 _ _, trivial⟩ (by kernel_rfl)) (OpsP.rest (by kernel_rfl) (HL.ret ?_)))
    exact Ends.ret (C := ctx) (R := fun v _ => v = cutV a b k) (l := [spanV nilS nilS, spanV nilS nilS, .bool false]) (by kernel_rfl) (by unfold cutV cutB; rw [e0]; rfl)
  | true =>
    refine OpsP.take 5 (by kernel_rfl) (OpsP.boolAt 15 hr84_1_3_5 (by kernel_rfl) fun b1 hb1 => ?_)
    have e1 : (!ltS a k) = b1 := Eq.trans (by kernel_rfl) hb1
    clear hb1
    cases b1 with
    | false =>
      refine OpsP.rest (by kernel_rfl) (HL.cond (t := false) (by kernel_rfl) rfl (fun h => by cases h) fun _ => HL.skip ?_)
      refine HL.seq (HL.run (C := ctx) (call := callL [(18, toldR TIn)]) (fid := 84) (sndL (l := [(18, toldR TIn)]) ⟨ok18 _ _, trivial⟩ (by kernel_rfl)) (RunP.plan plan84_3 (by kernel_rfl) (by kernel_rfl) (OpsP.rest (by kernel_rfl) ⟨?_, ?_⟩)))
      · exact again_k (v := .string a) (d := 20) (by kernel_rfl) (by kernel_rfl) (by kernel_rfl) (by kernel_rfl) (by kernel_rfl) (veq_string _) (again_k (v := .string b) (d := 25) (by kernel_rfl) (by kernel_rfl) (by kernel_rfl) (by kernel_rfl) (by kernel_rfl) (veq_string _) again_nil)
      · refine OpsP.rest (by kernel_rfl) ⟨again_k (v := .string b) (d := 25) (by kernel_rfl) (by kernel_rfl) (by kernel_rfl) (by kernel_rfl) (by kernel_rfl) (veq_string _) again_nil, ?_⟩
        refine OpsP.rest (by kernel_rfl) ⟨again_nil, ?_⟩
        refine OpsP.rest (by kernel_rfl) ⟨again_nil, ?_⟩
        refine HL.ret ?_
        exact Ends.ret (C := ctx) (R := fun v _ => v = cutV a b k) (l := [spanV a k, spanV k b, .bool true]) (by kernel_rfl) (by unfold cutV cutB; rw [e0, (by simpa using e1 : ltS a k = true)]; rfl)
    | true =>
      refine OpsP.rest (by kernel_rfl) (HL.cond (t := true) (by kernel_rfl) rfl (fun _ => ?_) fun h => by cases h)
      refine HL.seq (HL.reg (C := ctx) (call := callL [(18, toldR TIn)]) (fid := 84) (sndL (l := [(18, toldR TIn)]) ⟨ok18 _ _, trivial⟩ (by kernel_rfl)) (OpsP.rest (by kernel_rfl) (HL.ret ?_)))
      exact Ends.ret (C := ctx) (R := fun v _ => v = cutV a b k) (l := [spanV nilS nilS, spanV nilS nilS, .bool false]) (by kernel_rfl) (by unfold cutV cutB; rw [e0, (by simpa using e1 : ltS a k = false)]; rfl)

theorem ok84 [Atoms] (B : Nat → Prop) (w0 : World) : CallOk Try.prog B w0 84 (toldR TCut) := by
  refine CallOk.reads ctx_ok (P := Try.prog) (C := ctx) Try.func84 (by kernel_rfl) b84_body fun args m v h => ?_
  unfold TCut at h
  split at h
  · rename_i a b k
    simp only [Option.some.injEq] at h
    subst h
    exact ⟨Free.cut a b k, fun _ => 0, ⟨.leaf, 0⟩, [spanV a b, .string k], fun i hi => absurd hi (Nat.not_lt_zero i), .cons (VRen.agg (LRen.strs rfl)) (.cons (VRen.string _) .nil), Nat.le_of_ble_eq_true (by kernel_rfl), hf84 a b k⟩
  · cases h

noncomputable def b106 : Code := bodyOf Try.f106
theorem b106_body : Try.f106.body = some b106 := by kernel_rfl
noncomputable def r106_0 : Array Oper := rOps (sA b106)
noncomputable def r106_1 : Array Oper := rOps (sA (sA (sB b106)))
noncomputable def r106_2 : Array Oper := rOps (sA (ifA (sB (sA (sB b106)))))
noncomputable def r106_3 : Array Oper := rOps (sA (sB (sB b106)))
theorem b106_eq : b106 = .seq (.region 0 r106_0 false) (.seq (.seq (.region 1 r106_1 false) (.cond (.tmp 25) (.seq (.region 2 r106_2 false) .ret) .skip)) (.seq (.region 3 r106_3 false) .ret)) := by kernel_rfl
theorem hr106_1_0_1 : r106_1.toList.drop 1 = (r106_1.toList.drop 1).headD default :: r106_1.toList.drop 2 := by kernel_rfl
theorem hr106_1_2_3 : (r106_1.toList.drop 2).drop 3 = ((r106_1.toList.drop 2).drop 3).headD default :: r106_1.toList.drop 6 := by kernel_rfl
theorem hr106_1_6_5 : (r106_1.toList.drop 6).drop 5 = ((r106_1.toList.drop 6).drop 5).headD default :: r106_1.toList.drop 12 := by kernel_rfl
theorem hr106_1_12_6 : (r106_1.toList.drop 12).drop 6 = ((r106_1.toList.drop 12).drop 6).headD default :: r106_1.toList.drop 19 := by kernel_rfl
theorem hf106 [Atoms] (a b c d : ByteArray) : HF Try.prog ctx Try.f106 [spanV a b, spanV c d] ⟨.leaf, 0⟩ fun v _ => v = joinV a b c d := by
  intro B w0
  show HL _ _ _ _ b106 _ _ _
  rw [b106_eq]
  refine HL.seq (HL.reg (C := ctx) (call := callL [(44, toldR TIs)]) (fid := 106) (sndL (l := [(44, toldR TIs)]) ⟨ok44 _ _, trivial⟩ (by kernel_rfl)) (OpsP.rest (by kernel_rfl) ?_))
  refine HL.seq (HL.seq (HL.reg (C := ctx) (call := callL [(44, toldR TIs)]) (fid := 106) (sndL (l := [(44, toldR TIs)]) ⟨ok44 _ _, trivial⟩ (by kernel_rfl)) ?_))
  refine OpsP.take 1 (by kernel_rfl) (OpsP.boolAt 7 hr106_1_0_1 (by kernel_rfl) fun b0 hb0 => ?_)
  have e0 : isB a b = b0 := Eq.trans (by kernel_rfl) hb0
  clear hb0
  cases b0 with
  | false =>
    refine OpsP.rest (by kernel_rfl) (HL.cond (t := true) (by kernel_rfl) rfl (fun _ => ?_) fun h => by cases h)
    refine HL.seq (HL.reg (C := ctx) (call := callL [(44, toldR TIs)]) (fid := 106) (sndL (l := [(44, toldR TIs)]) ⟨ok44 _ _, trivial⟩ (by kernel_rfl)) (OpsP.rest (by kernel_rfl) (HL.ret ?_)))
    exact Ends.ret (C := ctx) (R := fun v _ => v = joinV a b c d) (l := [spanV nilS nilS, .bool false]) (by kernel_rfl) (by unfold joinV joinB; rw [e0]; rfl)
  | true =>
    refine OpsP.take 3 (by kernel_rfl) (OpsP.boolAt 11 hr106_1_2_3 (by kernel_rfl) fun b1 hb1 => ?_)
    have e1 : isB c d = b1 := Eq.trans (by kernel_rfl) hb1
    clear hb1
    cases b1 with
    | false =>
      refine OpsP.rest (by kernel_rfl) (HL.cond (t := true) (by kernel_rfl) rfl (fun _ => ?_) fun h => by cases h)
      refine HL.seq (HL.reg (C := ctx) (call := callL [(44, toldR TIs)]) (fid := 106) (sndL (l := [(44, toldR TIs)]) ⟨ok44 _ _, trivial⟩ (by kernel_rfl)) (OpsP.rest (by kernel_rfl) (HL.ret ?_)))
      exact Ends.ret (C := ctx) (R := fun v _ => v = joinV a b c d) (l := [spanV nilS nilS, .bool false]) (by kernel_rfl) (by unfold joinV joinB; rw [e0, e1]; rfl)
    | true =>
      refine OpsP.take 5 (by kernel_rfl) (OpsP.boolAt 17 hr106_1_6_5 (by kernel_rfl) fun b2 hb2 => ?_)
      have e2 : eqS b nilS = b2 := Eq.trans (by kernel_rfl) hb2
      clear hb2
      cases b2 with
      | false =>
        refine OpsP.take 6 (by kernel_rfl) (OpsP.boolAt 24 hr106_1_12_6 (by kernel_rfl) fun b3 hb3 => ?_)
        have e3 : (!eqS b c) = b3 := Eq.trans (by kernel_rfl) hb3
        clear hb3
        cases b3 with
        | false =>
          refine OpsP.rest (by kernel_rfl) (HL.cond (t := false) (by kernel_rfl) rfl (fun h => by cases h) fun _ => HL.skip ?_)
          refine HL.seq (HL.reg (C := ctx) (call := callL [(44, toldR TIs)]) (fid := 106) (sndL (l := [(44, toldR TIs)]) ⟨ok44 _ _, trivial⟩ (by kernel_rfl)) (OpsP.rest (by kernel_rfl) (HL.ret ?_)))
          exact Ends.ret (C := ctx) (R := fun v _ => v = joinV a b c d) (l := [spanV a d, .bool true]) (by kernel_rfl) (by unfold joinV joinB; rw [e0, e1, e2, (by simpa using e3 : eqS b c = true)]; rfl)
        | true =>
          refine OpsP.rest (by kernel_rfl) (HL.cond (t := true) (by kernel_rfl) rfl (fun _ => ?_) fun h => by cases h)
          refine HL.seq (HL.reg (C := ctx) (call := callL [(44, toldR TIs)]) (fid := 106) (sndL (l := [(44, toldR TIs)]) ⟨ok44 _ _, trivial⟩ (by kernel_rfl)) (OpsP.rest (by kernel_rfl) (HL.ret ?_)))
          exact Ends.ret (C := ctx) (R := fun v _ => v = joinV a b c d) (l := [spanV nilS nilS, .bool false]) (by kernel_rfl) (by unfold joinV joinB; rw [e0, e1, e2, (by simpa using e3 : eqS b c = false)]; rfl)
      | true =>
        refine OpsP.rest (by kernel_rfl) (HL.cond (t := true) (by kernel_rfl) rfl (fun _ => ?_) fun h => by cases h)
        refine HL.seq (HL.reg (C := ctx) (call := callL [(44, toldR TIs)]) (fid := 106) (sndL (l := [(44, toldR TIs)]) ⟨ok44 _ _, trivial⟩ (by kernel_rfl)) (OpsP.rest (by kernel_rfl) (HL.ret ?_)))
        exact Ends.ret (C := ctx) (R := fun v _ => v = joinV a b c d) (l := [spanV nilS nilS, .bool false]) (by kernel_rfl) (by unfold joinV joinB; rw [e0, e1, e2]; rfl)

theorem ok106 [Atoms] (B : Nat → Prop) (w0 : World) : CallOk Try.prog B w0 106 (toldR TJoin) := by
  refine CallOk.reads ctx_ok (P := Try.prog) (C := ctx) Try.func106 (by kernel_rfl) b106_body fun args m v h => ?_
  unfold TJoin at h
  split at h
  · rename_i a b c d
    simp only [Option.some.injEq] at h
    subst h
    exact ⟨Free.join a b c d, fun _ => 0, ⟨.leaf, 0⟩, [spanV a b, spanV c d], fun i hi => absurd hi (Nat.not_lt_zero i), .cons (VRen.agg (LRen.strs rfl)) (.cons (VRen.agg (LRen.strs rfl)) .nil), Nat.le_of_ble_eq_true (by kernel_rfl), hf106 a b c d⟩
  · cases h

end Go.Ev.Dir

namespace Go.Ev.Dir
open Go.Ev Go.Proofs
set_option linter.unusedSectionVars false

def isNum (n : Int) : Bool := decide (1 ≤ n) && decide (n ≤ 1099511627776)

noncomputable def b72 : Code := bodyOf Try.f72
theorem b72_body : Try.f72.body = some b72 := by kernel_rfl
noncomputable def r72_0 : Array Oper := rOps (sA b72)
noncomputable def r72_1 : Array Oper := rOps (sA (sB b72))
theorem b72_eq : b72 = .seq (.region 0 r72_0 false) (.seq (.region 1 r72_1 false) .ret) := by kernel_rfl
theorem ret72 : Try.f72.results.toList = [.tmp 2] := by kernel_rfl
theorem hr72_1_0_1 : r72_1.toList.drop 1 = (r72_1.toList.drop 1).headD default :: r72_1.toList.drop 2 := by kernel_rfl
theorem hr72_1_2_2 : (r72_1.toList.drop 2).drop 2 = ((r72_1.toList.drop 2).drop 2).headD default :: r72_1.toList.drop 5 := by kernel_rfl
theorem hf72 [Atoms] (n : Int) : HF Try.prog ctx Try.f72 [.int .i64 n] ⟨.leaf, 0⟩ fun v _ => v = .bool (isNum n) := by
  intro B w0
  show HL _ _ _ _ b72 _ _ _
  rw [b72_eq]
  refine HL.seq (HL.reg (C := ctx) (call := callF73) (fid := 72) (snd73 (by kernel_rfl)) (OpsP.rest (by kernel_rfl) ?_))
  refine HL.seq (HL.reg (C := ctx) (call := callF73) (fid := 72) (snd73 (by kernel_rfl)) ?_)
  refine OpsP.take 1 (by kernel_rfl) (OpsP.boolAt 4 hr72_1_0_1 (by kernel_rfl) fun b0 hb0 => ?_)
  have e0 : decide (1 ≤ n) = b0 := Eq.trans (by kernel_rfl) hb0
  clear hb0
  cases b0 with
  | false =>
    refine OpsP.rest (by kernel_rfl) (HL.ret ?_)
    exact Ends.ret1 (C := ctx) (R := fun v _ => v = .bool (isNum n)) ret72 (v := .bool false) (by kernel_rfl) (by unfold isNum; simp only [e0]; rfl)
  | true =>
    refine OpsP.take 2 (by kernel_rfl) (OpsP.boolAt 7 hr72_1_2_2 (by kernel_rfl) fun b1 hb1 => ?_)
    have e1 : decide (n ≤ 1099511627776) = b1 := Eq.trans (by kernel_rfl) hb1
    clear hb1
    cases b1 with
    | false =>
      refine OpsP.rest (by kernel_rfl) (HL.ret ?_)
      exact Ends.ret1 (C := ctx) (R := fun v _ => v = .bool (isNum n)) ret72 (v := .bool false) (by kernel_rfl) (by unfold isNum; simp only [e0, e1]; rfl)
    | true =>
      refine OpsP.rest (by kernel_rfl) (HL.ret ?_)
      exact Ends.ret1 (C := ctx) (R := fun v _ => v = .bool (isNum n)) ret72 (v := .bool true) (by kernel_rfl) (by unfold isNum; simp only [e0, e1]; rfl)

def T72 (args : List Value) (_ : Mem) : Option Value := match args with
  | [.int .i64 n] => some (.bool (isNum n))
  | _ => none

theorem ok72 [Atoms] (B : Nat → Prop) (w0 : World) : CallOk Try.prog B w0 72 (toldR T72) := by
  refine CallOk.reads ctx_ok (P := Try.prog) (C := ctx) Try.func72 (by kernel_rfl) b72_body fun args m v h => ?_
  unfold T72 at h
  split at h
  · rename_i n
    simp only [Option.some.injEq] at h
    subst h
    exact ⟨Free.flat rfl, fun _ => 0, ⟨.leaf, 0⟩, [.int .i64 n], fun i hi => absurd hi (Nat.not_lt_zero i), .cons (VRen.int _ _) .nil, Nat.le_of_ble_eq_true (by kernel_rfl), hf72 n⟩
  · cases h

def nest5 (b1 b2 b3 b4 b5 : Bool) : Option Bool := bif b1 then (bif b2 then (bif b3 then (bif b4 then (bif b5 then some true else some false) else some false) else some false) else some false) else some false
theorem nest5_eq (b1 b2 b3 b4 b5 : Bool) : nest5 b1 b2 b3 b4 b5 = some (b1 && (b2 && (b3 && (b4 && b5)))) := by
  cases b1 <;> cases b2 <;> cases b3 <;> cases b4 <;> cases b5 <;> rfl
def eqC (a b : Ch) : Bool := decide (a.kind = b.kind) && (decide (a.zone = b.zone) && (decide (a.ep = b.ep) && (decide (a.to = b.to) && eqS a.key b.key)))
theorem eqv_ch (a b : Ch) : eqv ctx 20 34 (.agg ⟨a.cells⟩) (.agg ⟨b.cells⟩) = some (eqC a b) := by
  have h : eqv ctx 20 34 (.agg ⟨a.cells⟩) (.agg ⟨b.cells⟩) = nest5 (decide (a.kind = b.kind)) (decide (a.zone = b.zone)) (decide (a.ep = b.ep)) (decide (a.to = b.to)) (eqS a.key b.key) := by kernel_rfl
  rw [h, nest5_eq]
  rfl

def restC (c : Ch) : Ch := ⟨0, 0, c.ep, c.to, c.key⟩
def may1 (c : Ch) : Bool := decide (1 ≤ (c.key.data.size : Int)) && (decide ((c.key.data.size : Int) ≤ 16) && eqC (restC c) ⟨0, 0, 0, 0, c.key⟩)
def may2 (c : Ch) : Bool := eqC (restC c) ⟨0, 0, 0, 0, nilS⟩
def may3 (c : Ch) : Bool := decide (1 ≤ c.to) && (decide (c.to ≤ 1048576) && eqC (restC c) ⟨0, 0, 0, c.to, nilS⟩)
def may4 (c : Ch) : Bool := isNum c.ep && eqC (restC c) ⟨0, 0, c.ep, 0, nilS⟩
def mayK (c : Ch) : Bool := bif decide (c.kind = 1) then may1 c else bif decide (c.kind = 2) then may2 c else bif decide (c.kind = 3) then may3 c else bif decide (c.kind = 4) || decide (c.kind = 5) then may4 c else false
def mayC (c : Ch) : Bool := isNum c.zone && mayK c

noncomputable def b37 : Code := bodyOf Try.f37
theorem b37_body : Try.f37.body = some b37 := by kernel_rfl
noncomputable def y37 : Code := sA (sB b37)
noncomputable def z37 : Code := sB (sB b37)
noncomputable def k37 : Code := blockOf (sB (sA (sB (sB z37))))
noncomputable def k37_8 : Code := ifB (sB k37)
noncomputable def k37_10 : Code := ifB (sB k37_8)
noncomputable def k37_12 : Code := ifB (sB k37_10)
noncomputable def r37_0 : Array Oper := rOps (sA b37)
noncomputable def r37_1 : Array Oper := rOps (sA y37)
noncomputable def r37_2 : Array Oper := rOps (sA (ifA (sB y37)))
noncomputable def r37_3 : Array Oper := rOps (sA z37)
noncomputable def r37_4 : Array Oper := rOps (sA (sB z37))
noncomputable def r37_5 : Array Oper := rOps (sA (sA (sB (sB z37))))
noncomputable def r37_6 : Array Oper := rOps (sA k37)
noncomputable def r37_7 : Array Oper := rOps (sA (ifA (sB k37)))
noncomputable def r37_8 : Array Oper := rOps (sA k37_8)
noncomputable def r37_9 : Array Oper := rOps (sA (ifA (sB k37_8)))
noncomputable def r37_10 : Array Oper := rOps (sA k37_10)
noncomputable def r37_11 : Array Oper := rOps (sA (ifA (sB k37_10)))
noncomputable def r37_12 : Array Oper := rOps (sA (sA k37_12))
noncomputable def r37_13 : Array Oper := rOps (ifB (sB (sA k37_12)))
noncomputable def r37_14 : Array Oper := rOps (sA (ifA (sB k37_12)))
noncomputable def r37_15 : Array Oper := rOps (sA (sB (sB (sB z37))))
noncomputable def c37_12 : Code := .seq (.seq (.region 12 r37_12 false) (.cond (.tmp 54) .skip (.region 13 r37_13 false))) (.cond (.tmp 54) (.seq (.region 14 r37_14 false) .ret) .skip)
noncomputable def c37_10 : Code := .seq (.region 10 r37_10 false) (.cond (.tmp 37) (.seq (.region 11 r37_11 false) .ret) c37_12)
noncomputable def c37_8 : Code := .seq (.region 8 r37_8 false) (.cond (.tmp 32) (.seq (.region 9 r37_9 false) .ret) c37_10)
noncomputable def c37_6 : Code := .seq (.region 6 r37_6 false) (.cond (.tmp 13) (.seq (.region 7 r37_7 false) .ret) c37_8)
theorem b37_eq : b37 = .seq (.region 0 r37_0 false) (.seq (.seq (.region 1 r37_1 false) (.cond (.tmp 7) (.seq (.region 2 r37_2 false) .ret) .skip)) (.seq (.region 3 r37_3 false) (.seq (.region 4 r37_4 false) (.seq (.seq (.region 5 r37_5 false) (.block 0 c37_6)) (.seq (.region 15 r37_15 false) .ret))))) := by kernel_rfl
theorem ret37 : Try.f37.results.toList = [.tmp 2] := by kernel_rfl
theorem hr37_7_0_3 : r37_7.toList.drop 3 = (r37_7.toList.drop 3).headD default :: r37_7.toList.drop 4 := by kernel_rfl
theorem hr37_7_4_4 : (r37_7.toList.drop 4).drop 4 = ((r37_7.toList.drop 4).drop 4).headD default :: r37_7.toList.drop 9 := by kernel_rfl
theorem hr37_7_eq : (r37_7.toList.drop 9).drop 6 = ((r37_7.toList.drop 9).drop 6).headD default :: r37_7.toList.drop 16 := by kernel_rfl

theorem hr37_9_eq : r37_9.toList.drop 2 = (r37_9.toList.drop 2).headD default :: r37_9.toList.drop 3 := by kernel_rfl
theorem hr37_11_0_2 : r37_11.toList.drop 2 = (r37_11.toList.drop 2).headD default :: r37_11.toList.drop 3 := by kernel_rfl
theorem hr37_11_3_3 : (r37_11.toList.drop 3).drop 3 = ((r37_11.toList.drop 3).drop 3).headD default :: r37_11.toList.drop 7 := by kernel_rfl
theorem hr37_11_eq : (r37_11.toList.drop 7).drop 6 = ((r37_11.toList.drop 7).drop 6).headD default :: r37_11.toList.drop 14 := by kernel_rfl
theorem hr37_14_0_2 : r37_14.toList.drop 2 = (r37_14.toList.drop 2).headD default :: r37_14.toList.drop 3 := by kernel_rfl
theorem hr37_14_eq : (r37_14.toList.drop 3).drop 5 = ((r37_14.toList.drop 3).drop 5).headD default :: r37_14.toList.drop 9 := by kernel_rfl

theorem hr37_1_2 : r37_1.toList.drop 2 = (r37_1.toList.drop 2).headD default :: r37_1.toList.drop 3 := by kernel_rfl

theorem hf37 [Atoms] (c : Ch) : HF Try.prog ctx Try.f37 [.agg ⟨c.cells⟩] ⟨.leaf, 0⟩ fun v _ => v = .bool (mayC c) := by
  intro B w0
  show HL _ _ _ _ b37 _ _ _
  rw [b37_eq]
  refine HL.seq (HL.reg (C := ctx) (call := callL [(72, toldR T72)]) (fid := 37) (sndL (l := [(72, toldR T72)]) ⟨ok72 _ _, trivial⟩ (by kernel_rfl)) (OpsP.rest (by kernel_rfl) ?_))
  refine HL.seq (HL.seq (HL.reg (C := ctx) (call := callL [(72, toldR T72)]) (fid := 37) (sndL (l := [(72, toldR T72)]) ⟨ok72 _ _, trivial⟩ (by kernel_rfl)) (OpsP.take 2 (by kernel_rfl) (OpsP.boolAt 6 hr37_1_2 (by kernel_rfl) fun b hb => ?_))))
  have hz : isNum c.zone = b := Eq.trans (by kernel_rfl) hb
  clear hb
  cases b with
  | false =>
    refine OpsP.rest (by kernel_rfl) (HL.cond (t := true) (by kernel_rfl) rfl (fun _ => ?_) fun h => by cases h)
    refine HL.seq (HL.reg (C := ctx) (call := callL [(72, toldR T72)]) (fid := 37) (sndL (l := [(72, toldR T72)]) ⟨ok72 _ _, trivial⟩ (by kernel_rfl)) (OpsP.rest (by kernel_rfl) (HL.ret ?_)))
    exact Ends.ret1 (C := ctx) (R := fun v _ => v = .bool (mayC c)) ret37 (v := .bool false) (by kernel_rfl) (by unfold mayC; rw [hz]; rfl)
  | true =>
  have hk : mayC c = mayK c := by unfold mayC; rw [hz]; rfl
  refine OpsP.rest (by kernel_rfl) (HL.cond (t := false) (by kernel_rfl) rfl (fun h => by cases h) fun _ => HL.skip ?_)
  refine HL.seq (HL.reg (C := ctx) (call := callL [(72, toldR T72)]) (fid := 37) (sndL (l := [(72, toldR T72)]) ⟨ok72 _ _, trivial⟩ (by kernel_rfl)) (OpsP.rest (by kernel_rfl) ?_))
  refine HL.seq (HL.reg (C := ctx) (call := callL [(72, toldR T72)]) (fid := 37) (sndL (l := [(72, toldR T72)]) ⟨ok72 _ _, trivial⟩ (by kernel_rfl)) (OpsP.rest (by kernel_rfl) ?_))
  refine HL.seq (HL.seq (HL.reg (C := ctx) (call := callL [(72, toldR T72)]) (fid := 37) (sndL (l := [(72, toldR T72)]) ⟨ok72 _ _, trivial⟩ (by kernel_rfl)) (OpsP.rest (by kernel_rfl) ?_)))
  refine HL.block (HL.seq (HL.reg (C := ctx) (call := callL [(72, toldR T72)]) (fid := 37) (sndL (l := [(72, toldR T72)]) ⟨ok72 _ _, trivial⟩ (by kernel_rfl)) (OpsP.rest (by kernel_rfl) ?_)))
  refine HL.cond (t := decide (c.kind = 1)) (by kernel_rfl) rfl (fun k1 => ?_) fun k1 => ?_
  · have hm : mayC c = may1 c := by rw [hk]; unfold mayK; rw [k1]; rfl
    refine HL.seq (HL.reg (C := ctx) (call := callL [(72, toldR T72)]) (fid := 37) (sndL (l := [(72, toldR T72)]) ⟨ok72 _ _, trivial⟩ (by kernel_rfl)) ?_)
    refine OpsP.take 3 (by kernel_rfl) (OpsP.boolAt 18 hr37_7_0_3 (by kernel_rfl) fun b0 hb0 => ?_)
    have e0 : decide (1 ≤ (c.key.data.size : Int)) = b0 := Eq.trans (by kernel_rfl) hb0
    clear hb0
    cases b0 with
    | false =>
      refine OpsP.rest (by kernel_rfl) (HL.ret ?_)
      exact Ends.ret1 (C := ctx) (R := fun v _ => v = .bool (mayC c)) ret37 (v := .bool false) (by kernel_rfl) (by rw [hm]; unfold may1; rw [e0]; rfl)
    | true =>
      refine OpsP.take 4 (by kernel_rfl) (OpsP.boolAt 23 hr37_7_4_4 (by kernel_rfl) fun b1 hb1 => ?_)
      have e1 : decide ((c.key.data.size : Int) ≤ 16) = b1 := Eq.trans (by kernel_rfl) hb1
      clear hb1
      cases b1 with
      | false =>
        refine OpsP.rest (by kernel_rfl) (HL.ret ?_)
        exact Ends.ret1 (C := ctx) (R := fun v _ => v = .bool (mayC c)) ret37 (v := .bool false) (by kernel_rfl) (by rw [hm]; unfold may1; rw [e0, e1]; rfl)
      | true =>
        refine OpsP.take 6 (by kernel_rfl) (OpsP.stepAt hr37_7_eq (step_eqv (x := .tmp 26) (y := .tmp 29) (t := 34) (q := 34) (p := true) (by kernel_rfl) (by kernel_rfl) (by kernel_rfl) (by kernel_rfl) (eqv_ch (restC c) ⟨0, 0, 0, 0, c.key⟩)) (OpsP.rest (by kernel_rfl) (HL.ret ?_)))
        exact Ends.ret1 (C := ctx) (R := fun v _ => v = .bool (mayC c)) ret37 (v := .bool (eqC (restC c) ⟨0, 0, 0, 0, c.key⟩)) (by kernel_rfl) (by rw [hm]; unfold may1; rw [e0, e1]; rfl)
  refine HL.seq (HL.reg (C := ctx) (call := callL [(72, toldR T72)]) (fid := 37) (sndL (l := [(72, toldR T72)]) ⟨ok72 _ _, trivial⟩ (by kernel_rfl)) (OpsP.rest (by kernel_rfl) ?_))
  refine HL.cond (t := decide (c.kind = 2)) (by kernel_rfl) rfl (fun k2 => ?_) fun k2 => ?_
  · have hm : mayC c = may2 c := by rw [hk]; unfold mayK; rw [k1, k2]; rfl
    refine HL.seq (HL.reg (C := ctx) (call := callL [(72, toldR T72)]) (fid := 37) (sndL (l := [(72, toldR T72)]) ⟨ok72 _ _, trivial⟩ (by kernel_rfl)) ?_)
    refine OpsP.take 2 (by kernel_rfl) (OpsP.stepAt hr37_9_eq (step_eqv (x := .tmp 34) (y := .tmp 35) (t := 34) (q := 34) (p := true) (by kernel_rfl) (by kernel_rfl) (by kernel_rfl) (by kernel_rfl) (eqv_ch (restC c) ⟨0, 0, 0, 0, nilS⟩)) (OpsP.rest (by kernel_rfl) (HL.ret ?_)))
    exact Ends.ret1 (C := ctx) (R := fun v _ => v = .bool (mayC c)) ret37 (v := .bool (eqC (restC c) ⟨0, 0, 0, 0, nilS⟩)) (by kernel_rfl) (by rw [hm]; unfold may2; rfl)
  refine HL.seq (HL.reg (C := ctx) (call := callL [(72, toldR T72)]) (fid := 37) (sndL (l := [(72, toldR T72)]) ⟨ok72 _ _, trivial⟩ (by kernel_rfl)) (OpsP.rest (by kernel_rfl) ?_))
  refine HL.cond (t := decide (c.kind = 3)) (by kernel_rfl) rfl (fun k3 => ?_) fun k3 => ?_
  · have hm : mayC c = may3 c := by rw [hk]; unfold mayK; rw [k1, k2, k3]; rfl
    refine HL.seq (HL.reg (C := ctx) (call := callL [(72, toldR T72)]) (fid := 37) (sndL (l := [(72, toldR T72)]) ⟨ok72 _ _, trivial⟩ (by kernel_rfl)) ?_)
    refine OpsP.take 2 (by kernel_rfl) (OpsP.boolAt 41 hr37_11_0_2 (by kernel_rfl) fun b0 hb0 => ?_)
    have e0 : decide (1 ≤ c.to) = b0 := Eq.trans (by kernel_rfl) hb0
    clear hb0
    cases b0 with
    | false =>
      refine OpsP.rest (by kernel_rfl) (HL.ret ?_)
      exact Ends.ret1 (C := ctx) (R := fun v _ => v = .bool (mayC c)) ret37 (v := .bool false) (by kernel_rfl) (by rw [hm]; unfold may3; rw [e0]; rfl)
    | true =>
      refine OpsP.take 3 (by kernel_rfl) (OpsP.boolAt 45 hr37_11_3_3 (by kernel_rfl) fun b1 hb1 => ?_)
      have e1 : decide (c.to ≤ 1048576) = b1 := Eq.trans (by kernel_rfl) hb1
      clear hb1
      cases b1 with
      | false =>
        refine OpsP.rest (by kernel_rfl) (HL.ret ?_)
        exact Ends.ret1 (C := ctx) (R := fun v _ => v = .bool (mayC c)) ret37 (v := .bool false) (by kernel_rfl) (by rw [hm]; unfold may3; rw [e0, e1]; rfl)
      | true =>
        refine OpsP.take 6 (by kernel_rfl) (OpsP.stepAt hr37_11_eq (step_eqv (x := .tmp 48) (y := .tmp 51) (t := 34) (q := 34) (p := true) (by kernel_rfl) (by kernel_rfl) (by kernel_rfl) (by kernel_rfl) (eqv_ch (restC c) ⟨0, 0, 0, c.to, nilS⟩)) (OpsP.rest (by kernel_rfl) (HL.ret ?_)))
        exact Ends.ret1 (C := ctx) (R := fun v _ => v = .bool (mayC c)) ret37 (v := .bool (eqC (restC c) ⟨0, 0, 0, c.to, nilS⟩)) (by kernel_rfl) (by rw [hm]; unfold may3; rw [e0, e1]; rfl)
  refine HL.seq (HL.seq (HL.reg (C := ctx) (call := callL [(72, toldR T72)]) (fid := 37) (sndL (l := [(72, toldR T72)]) ⟨ok72 _ _, trivial⟩ (by kernel_rfl)) (OpsP.rest (by kernel_rfl) ?_)))
  refine HL.cond (t := decide (c.kind = 4)) (by kernel_rfl) rfl (fun k4 => HL.skip ?_) fun k4 => ?_
  · have hm : mayC c = may4 c := by rw [hk]; unfold mayK; rw [k1, k2, k3, k4]; rfl
    refine HL.cond (t := decide (c.kind = 4)) (by kernel_rfl) rfl (fun _ => ?_) fun h => by rw [k4] at h; cases h
    refine HL.seq (HL.reg (C := ctx) (call := callL [(72, toldR T72)]) (fid := 37) (sndL (l := [(72, toldR T72)]) ⟨ok72 _ _, trivial⟩ (by kernel_rfl)) ?_)
    refine OpsP.take 2 (by kernel_rfl) (OpsP.boolAt 59 hr37_14_0_2 (by kernel_rfl) fun b0 hb0 => ?_)
    have e0 : isNum c.ep = b0 := Eq.trans (by kernel_rfl) hb0
    clear hb0
    cases b0 with
    | false =>
      refine OpsP.rest (by kernel_rfl) (HL.ret ?_)
      exact Ends.ret1 (C := ctx) (R := fun v _ => v = .bool (mayC c)) ret37 (v := .bool false) (by kernel_rfl) (by rw [hm]; unfold may4; rw [e0]; rfl)
    | true =>
      refine OpsP.take 5 (by kernel_rfl) (OpsP.stepAt hr37_14_eq (step_eqv (x := .tmp 61) (y := .tmp 64) (t := 34) (q := 34) (p := true) (by kernel_rfl) (by kernel_rfl) (by kernel_rfl) (by kernel_rfl) (eqv_ch (restC c) ⟨0, 0, c.ep, 0, nilS⟩)) (OpsP.rest (by kernel_rfl) (HL.ret ?_)))
      exact Ends.ret1 (C := ctx) (R := fun v _ => v = .bool (mayC c)) ret37 (v := .bool (eqC (restC c) ⟨0, 0, c.ep, 0, nilS⟩)) (by kernel_rfl) (by rw [hm]; unfold may4; rw [e0]; rfl)
  refine HL.reg (C := ctx) (call := callL [(72, toldR T72)]) (fid := 37) (sndL (l := [(72, toldR T72)]) ⟨ok72 _ _, trivial⟩ (by kernel_rfl)) (OpsP.rest (by kernel_rfl) ?_)
  refine HL.cond (t := decide (c.kind = 5)) (by kernel_rfl) rfl (fun k5 => ?_) fun k5 => HL.skip ?_
  · have hm : mayC c = may4 c := by rw [hk]; unfold mayK; rw [k1, k2, k3, k4, k5]; rfl
    refine HL.seq (HL.reg (C := ctx) (call := callL [(72, toldR T72)]) (fid := 37) (sndL (l := [(72, toldR T72)]) ⟨ok72 _ _, trivial⟩ (by kernel_rfl)) ?_)
    refine OpsP.take 2 (by kernel_rfl) (OpsP.boolAt 59 hr37_14_0_2 (by kernel_rfl) fun b0 hb0 => ?_)
    have e0 : isNum c.ep = b0 := Eq.trans (by kernel_rfl) hb0
    clear hb0
    cases b0 with
    | false =>
      refine OpsP.rest (by kernel_rfl) (HL.ret ?_)
      exact Ends.ret1 (C := ctx) (R := fun v _ => v = .bool (mayC c)) ret37 (v := .bool false) (by kernel_rfl) (by rw [hm]; unfold may4; rw [e0]; rfl)
    | true =>
      refine OpsP.take 5 (by kernel_rfl) (OpsP.stepAt hr37_14_eq (step_eqv (x := .tmp 61) (y := .tmp 64) (t := 34) (q := 34) (p := true) (by kernel_rfl) (by kernel_rfl) (by kernel_rfl) (by kernel_rfl) (eqv_ch (restC c) ⟨0, 0, c.ep, 0, nilS⟩)) (OpsP.rest (by kernel_rfl) (HL.ret ?_)))
      exact Ends.ret1 (C := ctx) (R := fun v _ => v = .bool (mayC c)) ret37 (v := .bool (eqC (restC c) ⟨0, 0, c.ep, 0, nilS⟩)) (by kernel_rfl) (by rw [hm]; unfold may4; rw [e0]; rfl)
  refine HL.seq (HL.reg (C := ctx) (call := callL [(72, toldR T72)]) (fid := 37) (sndL (l := [(72, toldR T72)]) ⟨ok72 _ _, trivial⟩ (by kernel_rfl)) (OpsP.rest (by kernel_rfl) (HL.ret ?_)))
  exact Ends.ret1 (C := ctx) (R := fun v _ => v = .bool (mayC c)) ret37 (v := .bool false) (by kernel_rfl) (by rw [hk]; unfold mayK; rw [k1, k2, k3, k4, k5]; rfl)

def T37 (args : List Value) (_ : Mem) : Option Value := match args with
  | [.agg ⟨[.int .i64 k, .int .i64 z, .int .i64 e, .int .i64 t, .string s]⟩] => some (.bool (mayC ⟨k, z, e, t, s⟩))
  | _ => none

theorem ok37 [Atoms] (B : Nat → Prop) (w0 : World) : CallOk Try.prog B w0 37 (toldR T37) := by
  refine CallOk.reads ctx_ok (P := Try.prog) (C := ctx) Try.func37 (by kernel_rfl) b37_body fun args m v h => ?_
  unfold T37 at h
  split at h
  · rename_i k z e t s
    simp only [Option.some.injEq] at h
    subst h
    exact ⟨Free.flat rfl, fun _ => 0, ⟨.leaf, 0⟩, [.agg ⟨(⟨k, z, e, t, s⟩ : Ch).cells⟩], fun i hi => absurd hi (Nat.not_lt_zero i), .cons (VRen.agg (LRen.strs rfl)) .nil, Nat.le_of_ble_eq_true (by kernel_rfl), hf37 ⟨k, z, e, t, s⟩⟩
  · cases h

end Go.Ev.Dir

namespace Go.Ev.Dir
open Go.Ev Go.Proofs
set_option linter.unusedSectionVars false

def T104 (args : List Value) (m : Mem) : Option Value := match args with
  | [.slice (some ⟨o1, f1, none⟩) n1 c1, .slice (some ⟨o2, _, none⟩) n2 c2] => (match m.get o1, m.get o2 with
    | some (.cells vs1 e1 .sole), some (.cells vs2 e2 .sole) =>
      bif !Nat.beq o1 o2 && Nat.beq e1 9 && Nat.blt f1 vs1.length && Nat.blt 0 vs2.length && !(n1 == 0 && c1 == UNK) && !(n2 == 0 && c2 == UNK) then some (.bool false) else none
    | _, _ => none)
  | _ => none

theorem size39 [Atoms] : ∀ w, (Go.sizeOf 39).run Try.prog w = .ok 9 w := by
  intro w
  obtain ⟨i, h1, h2⟩ := ctx_ok.size (t := 39) (n := 9) (by kernel_rfl)
  rw [run_sizeOf h1 w, h2]

theorem no_body104 : Try.f104.body.isNone = true := by kernel_rfl
theorem next104 : Extern.findNext Try.f104 = none := by kernel_rfl
theorem find104 : Extern.find Try.f104 = some (Extern.SlicesOverlaps.overlaps #[28, 28] #[4]) := by kernel_rfl

theorem ok104 [Atoms] (B : Nat → Prop) (w0 : World) : CallOk Try.prog B w0 104 (toldR T104) := by
  intro args m v m' hg μ w args' hr ha
  unfold toldR at hg
  obtain ⟨u, hT, hg⟩ := Option.bind_eq_some_iff.1 hg
  simp only [Option.some.injEq, Prod.mk.injEq] at hg
  obtain ⟨rfl, rfl⟩ := hg
  unfold T104 at hT
  split at hT
  · rename_i o1 f1 n1 c1 o2 f2 n2 c2
    split at hT
    · rename_i vs1 e1 vs2 e2 g1 g2
      cases hc : (!Nat.beq o1 o2 && Nat.beq e1 9 && Nat.blt f1 vs1.length && Nat.blt 0 vs2.length && !(n1 == 0 && c1 == UNK) && !(n2 == 0 && c2 == UNK)) with
      | false => rw [hc] at hT; cases hT
      | true =>
        rw [hc] at hT
        simp only [cond_true, Option.some.injEq] at hT
        subst hT
        simp only [Bool.and_eq_true, Bool.not_eq_true'] at hc
        obtain ⟨⟨⟨⟨⟨h1, h2⟩, h3⟩, h4⟩, h5⟩, h6⟩ := hc
        have h2 := Nat.eq_of_beq_eq_true h2
        subst h2
        have h3 : f1 < vs1.length := Nat.le_of_ble_eq_true h3
        have h4 : 0 < vs2.length := Nat.le_of_ble_eq_true h4
        obtain ⟨a1, r1, rfl, k1, ha⟩ := ha.cons_left
        obtain ⟨a2, r2, rfl, k2, ha⟩ := ha.cons_left
        have e := ha.nil_left
        subst e
        clear ha
        obtain ⟨l1, c1', q1, rfl⟩ : ∃ l c', μ o1 = some l ∧ a1 = .slice (some ⟨l.blk, l.base + f1, none⟩) n1 c' := by
          cases k1 with
          | semp => simp at h5
          | slice q _ _ => exact ⟨_, _, q, rfl⟩
        obtain ⟨l2, c2', q2, rfl⟩ : ∃ l c', μ o2 = some l ∧ a2 = .slice (some ⟨l.blk, l.base + f2, none⟩) n2 c' := by
          cases k2 with
          | semp => simp at h6
          | slice q _ _ => exact ⟨_, _, q, rfl⟩
        have b1 := hr.obj _ _ q1
        have b2 := hr.obj _ _ q2
        rw [g1] at b1
        rw [g2] at b2
        obtain ⟨x1, el1, fz1, p1, p2, p3, p4, _⟩ := b1.blk
        obtain ⟨x2, el2, fz2, s1, s2, s3, _, _⟩ := b2.blk
        have hne : l1.blk ≠ l2.blk := by
          intro he
          have hs := hr.sep o1 o2 l1 l2 (fun e => by subst e; simp at h1) q1 q2 he
          rw [g1, g2] at hs
          rcases hs rfl rfl with ⟨e, _⟩ | ⟨g, e, _⟩
          · cases e
          · cases e
        obtain ⟨_, hth⟩ := p4 (by simp)
        have hf : fz1 = (0, 0) := by
          rcases hth.plain with e | e
          · cases e
          · exact e
        subst hf
        refine .inr ⟨.bool false, w, ?_, μ, .bool _, hr, Ext.refl _ _⟩
        rw [run_callFunc_extern Try.func104 (by kernel_rfl) no_body104 next104 find104,
          Lib.run_overlaps_apart w 28 4 39 (ctx_ok.under (by kernel_rfl)) 9 size39 ⟨l1.blk, l1.base + f1, none⟩ ⟨l2.blk, l2.base + f2, none⟩ n1 c1' n2 c2' hne el1 el2 x1.size x2.size
            (by simp [World.shape?, p1]) (by simp [World.shape?, s1]) (by omega) (by simp [World.frozen?, p1]) (by simp [World.frozen?, p1])]
        rfl
    · cases hT
  · cases hT

end Go.Ev.Dir
