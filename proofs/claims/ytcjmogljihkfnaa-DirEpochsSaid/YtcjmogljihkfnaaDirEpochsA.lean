/- What the law DirEpochs answers: true; no condition. -/
import Derived.Test.YtcjmogljihkfnaaDirPc
set_option linter.unusedVariables false
set_option linter.unusedSimpArgs false
namespace Go.Ev.Dir
open Go.Ev Go.Proofs
set_option linter.unusedSectionVars false
set_option linter.unusedVariables false
set_option linter.unusedSimpArgs false

def HC4 : Nat := UNK + 1 + UNK * 4
def hs4 : List Int := [8, 9, 10, 11]
def capOk (c n : Nat) : Prop := c = UNK + 9 + UNK * n ∨ c = n
noncomputable def lE : List (Nat × (List Value → Mem → Ret)) := [(12, toldR T12), (14, T14), (15, TD apP), (16, toldR T16), (17, told0 (.bool true))]

def sigL (l : List Nat) (i : Nat) : Nat := l[i]?.getD 0
theorem sigL_inj {l : List Nat} (h : l.Nodup) : ∀ i j, i < l.length → j < l.length → sigL l i = sigL l j → i = j := by
  intro i j hi hj e
  unfold sigL at e
  rw [List.getElem?_eq_getElem hi, List.getElem?_eq_getElem hj] at e
  exact (List.getElem_inj h).1 (by simpa using e)

/-- the changes (0), the Dir (1), its zones (2), its hosts (3) -/
def mE (L : List Ch) (v nx : Int) (zs : List Z) (c : Nat) : Mem :=
  ⟨.node (some (.cells (flatC L) 5 .ro)) (.node (some (.cells (dirCells v nx 2 zs.length c (.slice (some ⟨3, 0, none⟩) 4 HC4)) 4 .sole)) (.node (some (.cells (ints hs4) 1 .ro)) .leaf .leaf) .leaf) (.node (some (.cells (flat zs) 9 .sole)) .leaf .leaf), 4⟩
/-- the same, the maps ahead and behind (4, 5), and their zones (6, 7) -/
def mFE (L : List Ch) (v nx : Int) (zs : List Z) (c : Nat) (va na : Int) (za : List Z) : Mem :=
  ⟨.node (some (.cells (flatC L) 5 .ro)) (.node (some (.cells (dirCells v nx 2 zs.length c (.slice (some ⟨3, 0, none⟩) 4 HC4)) 4 .sole)) (.node (some (.cells (ints hs4) 1 .ro)) (.node (some (.cells (flat zs) 9 .ro)) .leaf .leaf) .leaf) (.node (some (.cells [.int .i64 v, .int .i64 nx, .slice (some ⟨7, 0, none⟩) zs.length (UNK + 9 + UNK * zs.length)] 3 .ro)) .leaf .leaf))
    (.node (some (.cells (flat zs) 9 .sole)) (.node (some (.cells [.int .i64 va, .int .i64 na, .slice (some ⟨6, 0, none⟩) za.length (UNK + 9 + UNK * za.length)] 3 .ro)) .leaf .leaf) (.node (some (.cells (flat za) 9 .ro)) .leaf .leaf)), 8⟩

theorem HC4_ne (n : Nat) : (4 == 0 && HC4 == UNK) = false := rfl
theorem emp1 {n c : Nat} (h : 1 ≤ n) : (n == 0 && c == UNK) = false := by
  have : (n == 0) = false := by simp; omega
  rw [this]; rfl

def eqSp (y x : Z) : Bool := eqS y.lo x.lo && eqS y.hi x.hi
theorem eqS_refl (a : ByteArray) : eqS a a = true := strEqS _
def badE (x y : Z) : Bool := decide (x.id = y.id) && (decide (y.ep < x.ep) || ((!decide (y.own = x.own) && decide (y.ep ≤ x.ep)) || (!eqSp y x && decide (y.ep ≤ x.ep))))
theorem good_bad {x y : Z} (h : goodE x y) : badE x y = false := by
  unfold badE
  cases hid : decide (x.id = y.id) with
  | false => rfl
  | true =>
    obtain ⟨h1, h2⟩ := h (of_decide_eq_true hid)
    rw [show decide (y.ep < x.ep) = false from decide_eq_false (by omega)]
    rcases h2 with ⟨a, b, c⟩ | h2
    · rw [show decide (y.own = x.own) = true from decide_eq_true a]
      unfold eqSp
      rw [b, c, eqS_refl, eqS_refl]
      rfl
    · rw [show decide (y.ep ≤ x.ep) = false from decide_eq_false (by omega)]
      simp

theorem eqZ_refl (z : Z) : eqZ z z = true := by unfold eqZ; simp [eqS_refl]
theorem eqZs_refl : ∀ l : List Z, eqZs l l = true
  | [] => rfl
  | z :: r => by unfold eqZs; simp [eqZ_refl, eqZs_refl r]
theorem eqM_refl (a : Mp) : eqM a a = true := by unfold eqM; simp [eqZs_refl]

section
variable [Atoms] {B : Nat → Prop} {w0 : World}

theorem eqv_span {a b c d : ByteArray} {r : Bool} (h : (eqS a c && eqS b d) = r) : eqv ctx 20 37 (.agg ⟨[.string a, .string b]⟩) (.agg ⟨[.string c, .string d]⟩) = some r := by
  have e : eqv ctx 20 37 (.agg ⟨[.string a, .string b]⟩) (.agg ⟨[.string c, .string d]⟩) = (bif eqS a c then (bif eqS b d then some true else some false) else some false) := by kernel_rfl
  rw [e, ← h]
  cases eqS a c <;> cases eqS b d <;> rfl
theorem eqv_sp {x y : Z} {r : Bool} (h : eqSp y x = r) : eqv ctx 20 37 (.agg ⟨[.string y.lo, .string y.hi]⟩) (.agg ⟨[.string x.lo, .string x.hi]⟩) = some r := eqv_span h

theorem lE_ok (B : Nat → Prop) (w0 : World) : AllOf (fun x : Nat × (List Value → Mem → Ret) => CallOk Try.prog B w0 x.1 x.2) lE := ⟨ok12 _ _, ok14 _ _, ok15 _ _, ok16 _ _, known_ok _ _, trivial⟩

theorem keepsE {l : List Nat} {m : Mem} {L : List Ch} {v nx : Int} {zs : List Z} {c : Nat} {st : Stat} (hl : l.length = 4) (hnd : l.Nodup) (hst : st = .ro ∨ st = .sole) (h1 : 1 ≤ zs.length) (s0 : m.get (sigL l 0) = some (.cells (flatC L) 5 .ro)) (s1 : m.get (sigL l 1) = some (.cells (dirCells v nx (sigL l 2) zs.length c (.slice (some ⟨sigL l 3, 0, none⟩) 4 HC4)) 4 .sole))
    (s2 : m.get (sigL l 2) = some (.cells (flat zs) 9 .sole)) (s3 : m.get (sigL l 3) = some (.cells (ints hs4) 1 st)) : KeepsW (sigL l) m (mE L v nx zs c) where
  inj i j hi hj := sigL_inj hnd i j (by rw [hl]; exact hi) (by rw [hl]; exact hj)
  obj i hi := by
    have : i = 0 ∨ i = 1 ∨ i = 2 ∨ i = 3 := by have : i < 4 := hi; omega
    rcases this with rfl | rfl | rfl | rfl
    · exact ⟨_, _, 5, .ro, .ro, rfl, s0, .inl ⟨rfl, rfl⟩, by rw [List.take_length]; exact LRen.chs L⟩
    · exact ⟨_, _, 4, .sole, .sole, rfl, s1, .inr ⟨rfl, .inl rfl⟩, .cons (VRen.int _ _) (.cons (VRen.int _ _) (.cons (VRen.slice (show 2 < 4 by decide) rfl (emp1 h1)) (.cons (VRen.slice (show 3 < 4 by decide) rfl rfl) .nil)))⟩
    · exact ⟨_, _, 9, .sole, .sole, rfl, s2, .inr ⟨rfl, .inl rfl⟩, by rw [List.take_length]; exact LRen.zones zs⟩
    · refine ⟨_, _, 1, st, .ro, rfl, s3, ?_, by rw [List.take_length]; exact LRen.ints hs4⟩
      rcases hst with rfl | rfl
      · exact .inl ⟨rfl, rfl⟩
      · exact .inr ⟨rfl, .inr rfl⟩

theorem st_or {st : Stat} (h : st = .ro ∨ st = .sole) : (st = .ro ∧ Stat.ro = .ro) ∨ (st = .sole ∧ (Stat.ro = .sole ∨ Stat.ro = .ro)) := by
  rcases h with rfl | rfl
  · exact .inl ⟨rfl, rfl⟩
  · exact .inr ⟨rfl, .inr rfl⟩

theorem keepsF {l : List Nat} {m : Mem} {L : List Ch} {v nx : Int} {zs : List Z} {c : Nat} {va na : Int} {za : List Z} {t4 t5 t6 t7 : Stat} (hl : l.length = 8) (hnd : l.Nodup) (h4 : t4 = .ro ∨ t4 = .sole) (h5 : t5 = .ro ∨ t5 = .sole) (h6 : t6 = .ro ∨ t6 = .sole) (h7 : t7 = .ro ∨ t7 = .sole) (h1 : 1 ≤ zs.length) (ha : 1 ≤ za.length)
    (s0 : m.get (sigL l 0) = some (.cells (flatC L) 5 .ro)) (s1 : m.get (sigL l 1) = some (.cells (dirCells v nx (sigL l 2) zs.length c (.slice (some ⟨sigL l 3, 0, none⟩) 4 HC4)) 4 .sole))
    (s2 : m.get (sigL l 2) = some (.cells (flat zs) 9 .sole)) (s3 : m.get (sigL l 3) = some (.cells (ints hs4) 1 .ro)) (s4 : m.get (sigL l 4) = some (.cells [.int .i64 va, .int .i64 na, .slice (some ⟨sigL l 6, 0, none⟩) za.length (UNK + 9 + UNK * za.length)] 3 t4)) (s5 : m.get (sigL l 5) = some (.cells [.int .i64 v, .int .i64 nx, .slice (some ⟨sigL l 7, 0, none⟩) zs.length (UNK + 9 + UNK * zs.length)] 3 t5))
    (s6 : m.get (sigL l 6) = some (.cells (flat za) 9 t6)) (s7 : m.get (sigL l 7) = some (.cells (flat zs) 9 t7)) : KeepsW (sigL l) m (mFE L v nx zs c va na za) where
  inj i j hi hj := sigL_inj hnd i j (by rw [hl]; exact hi) (by rw [hl]; exact hj)
  obj i hi := by
    have : i = 0 ∨ i = 1 ∨ i = 2 ∨ i = 3 ∨ i = 4 ∨ i = 5 ∨ i = 6 ∨ i = 7 := by have : i < 8 := hi; omega
    rcases this with rfl | rfl | rfl | rfl | rfl | rfl | rfl | rfl
    · exact ⟨_, _, 5, .ro, .ro, rfl, s0, .inl ⟨rfl, rfl⟩, by rw [List.take_length]; exact LRen.chs L⟩
    · exact ⟨_, _, 4, .sole, .sole, rfl, s1, .inr ⟨rfl, .inl rfl⟩, .cons (VRen.int _ _) (.cons (VRen.int _ _) (.cons (VRen.slice (show 2 < 8 by decide) rfl (emp1 h1)) (.cons (VRen.slice (show 3 < 8 by decide) rfl rfl) .nil)))⟩
    · exact ⟨_, _, 9, .sole, .sole, rfl, s2, .inr ⟨rfl, .inl rfl⟩, by rw [List.take_length]; exact LRen.zones zs⟩
    · exact ⟨_, _, 1, .ro, .ro, rfl, s3, .inl ⟨rfl, rfl⟩, by rw [List.take_length]; exact LRen.ints hs4⟩
    · exact ⟨_, _, 3, t4, .ro, rfl, s4, st_or h4, .cons (VRen.int _ _) (.cons (VRen.int _ _) (.cons (VRen.slice (show 6 < 8 by decide) rfl (emp1 ha)) .nil))⟩
    · exact ⟨_, _, 3, t5, .ro, rfl, s5, st_or h5, .cons (VRen.int _ _) (.cons (VRen.int _ _) (.cons (VRen.slice (show 7 < 8 by decide) rfl (emp1 h1)) .nil))⟩
    · exact ⟨_, _, 9, t6, .ro, rfl, s6, st_or h6, by rw [List.take_length]; exact LRen.zones za⟩
    · exact ⟨_, _, 9, t7, .ro, rfl, s7, st_or h7, by rw [List.take_length]; exact LRen.zones zs⟩

theorem callE12 {m : Mem} {L : List Ch} {c : Nat} {b : Bool} (hm : m.get 0 = some (.cells (flatC L) 5 .ro)) (hc : (L.length == 0 && c == UNK) = false) (h : heavyM L = b) : callL lE 12 [.slice (some ⟨0, 0, none⟩) L.length c] m = some (.bool b, m) := by
  unfold callL
  rw [callN_told (g := toldR T12) rfl]
  unfold toldR T12
  simp only [chsAt_flat hm rfl hc, Option.bind_some, h]
theorem callE14 {m : Mem} {v nx : Int} {z c : Nat} {zs : List Z} {h : Value} (h1 : m.get 1 = some (.cells (dirCells v nx z zs.length c h) 4 .sole)) (hz : m.get z = some (.cells (flat zs) 9 .sole)) (hn : zs.length ≤ 1000) (hge : 1 ≤ zs.length) : callL lE 14 [ptr 1 0] m = some (.agg ⟨[.int .i64 v, .int .i64 nx, newZ m zs]⟩, withZ m zs) := by
  unfold callL
  rw [callN_told (g := T14) rfl]
  unfold T14 ptr
  simp only [h1, dirCells]
  rw [zonesAt1_flat (app_nil hz) rfl (emp1 hge) hn hge]
  rfl
theorem callE15 {m : Mem} {v nx : Int} {c : Nat} {zs : List Z} {k : Ch} {r : DR} (hI : InvE nx zs) (hv : 0 ≤ v) (hcap : capOk c zs.length) (h1 : m.get 1 = some (.cells (dirCells v nx 2 zs.length c (.slice (some ⟨3, 0, none⟩) 4 HC4)) 4 .sole)) (hz : m.get 2 = some (.cells (flat zs) 9 .sole)) (hh : m.get 3 = some (.cells (ints hs4) 1 .ro)) (hr : apP v nx zs hs4 k = r) :
    callL lE 15 [ptr 1 0, .agg ⟨k.cells⟩] m = some (.bool r.1, memD m 1 2 3 (flat zs) 4 HC4 r.2.1 r.2.2.1 r.2.2.2) := by
  have hge := hI.ge
  have hle := hI.le
  unfold callL
  rw [callN_told (g := TD apP) rfl]
  have hcc : UNK ≤ c ∨ (c * 9 ≤ (flat zs ++ []).length ∧ zs.length ≤ c) := by
    rcases hcap with h | h
    · left; omega
    · right; rw [List.append_nil, flat_length]; omega
  have := TD_eq (ap := apP) (k := k) (hs := hs4) (rest := []) h1 (app_nil hz) hh (emp1 hge) (by omega) (by decide) rfl hv hI.nn hcc (fun z hz => (hI.one z hz).2.1)
  rw [this, hr, List.append_nil]
  rfl
theorem callE16 {m : Mem} {v nx : Int} {a b ca cb : Nat} {zs : List Z} (h1 : m.get a = some (.cells (flat zs) 9 .sole)) (h2 : m.get b = some (.cells (flat zs) 9 .sole)) (hn : zs.length ≤ 1000) (hge : 1 ≤ zs.length) :
    callL lE 16 [.agg ⟨[.int .i64 v, .int .i64 nx, .slice (some ⟨a, 0, none⟩) zs.length ca]⟩, .agg ⟨[.int .i64 v, .int .i64 nx, .slice (some ⟨b, 0, none⟩) zs.length cb]⟩] m = some (.bool true, m) := by
  unfold callL
  rw [callN_told (g := toldR T16) rfl]
  unfold toldR T16
  simp only [zonesAt_flat (app_nil h1) rfl (emp1 hge) hn, zonesAt_flat (app_nil h2) rfl (emp1 hge) hn, Option.bind_some, eqM_refl]
theorem callE17 {m : Mem} : callL lE 17 [] m = some (.bool true, m) := by
  unfold callL
  rw [callN_told (g := told0 (.bool true)) rfl]
  rfl

theorem app_by {v nx : Int} {zs : List Z} {k : Ch} {Q : Prop} (hI : InvE nx zs) (h0 : apP v nx zs hs4 k = (false, v, nx, zs) → (∀ a ∈ zs, ∀ b ∈ zs, goodE a b) → Q)
    (h1 : ∀ nx' zs', apP v nx zs hs4 k = (true, v + 1, nx', zs') → v < 1099511627776 → InvE nx' zs' → (∀ a ∈ zs, ∀ b ∈ zs', goodE a b) → Q) : Q := by
  cases hM : applyM v nx zs hs4 k with
  | none => exact h0 (by unfold apP; rw [hM]) (good_of hI fun y hy => .inl ⟨y, hy, rfl, goodE.refl y⟩)
  | some x =>
    obtain ⟨a, b, c, d⟩ := apply_ok hI hM
    obtain ⟨x1, x2, x3⟩ := x
    simp only at a
    subst a
    exact h1 x2 x3 (by unfold apP; rw [hM]) b c d


def zN : Z := ⟨1, nilS, nilS, 8, 1, 0, 0, nilS, 0⟩
theorem invE_new : InvE 2 [zN] := ⟨by decide, by decide, by decide, fun x hx => by
  simp only [List.mem_cons, List.not_mem_nil, or_false] at hx
  subst hx
  exact ⟨by decide, by decide, fun h => absurd h (by decide)⟩, List.pairwise_singleton _ _⟩

def InvL (L : List Ch) (cl : Nat) (n : Nat) (s : Slots) (m : Mem) : Prop :=
  ∃ (i : Nat) (v nx : Int) (zs : List Z) (c : Nat), n = L.length - i ∧ i ≤ L.length ∧ InvE nx zs ∧ 0 ≤ v ∧ v ≤ 1099511627776 ∧ capOk c zs.length ∧ s = mkS 129 [(0, .slice (some ⟨0, 0, none⟩) L.length cl), (3, ptr 1 0), (5, .int .i64 ((i : Nat) : Int))] ∧ m = mE L v nx zs c

noncomputable def b3 : Code := bodyOf Try.f3
theorem b3_body : Try.f3.body = some b3 := by kernel_rfl
noncomputable def r3_0 : Array Oper := rOps (sA (b3))
noncomputable def r3_1 : Array Oper := rOps (sA (sA (sB (b3))))
noncomputable def r3_2 : Array Oper := rOps (sA (ifA (sB (sA (sB (b3))))))
noncomputable def r3_3 : Array Oper := rOps (sA (sB (sB (b3))))
noncomputable def r3_4 : Array Oper := rOps (sA (sA (sB (sB (sB (b3))))))
noncomputable def r3_5 : Array Oper := rOps (sA (ifA (sB (sA (sB (sB (sB (b3))))))))
noncomputable def r3_6 : Array Oper := rOps (sA (sA (sB (sB (sB (sB (b3)))))))
noncomputable def r3_7 : Array Oper := rOps (sA (sA (loopOf (blockOf (sB (sA (sB (sB (sB (sB (b3)))))))))))
noncomputable def r3_9 : Array Oper := rOps (sA (blockOf (sA (sB (loopOf (blockOf (sB (sA (sB (sB (sB (sB (b3)))))))))))))
noncomputable def r3_10 : Array Oper := rOps (sA (sB (blockOf (sA (sB (loopOf (blockOf (sB (sA (sB (sB (sB (sB (b3))))))))))))))
noncomputable def r3_11 : Array Oper := rOps (sA (sB (sB (blockOf (sA (sB (loopOf (blockOf (sB (sA (sB (sB (sB (sB (b3)))))))))))))))
noncomputable def r3_12 : Array Oper := rOps (sA (sA (sB (sB (sB (blockOf (sA (sB (loopOf (blockOf (sB (sA (sB (sB (sB (sB (b3)))))))))))))))))
noncomputable def r3_13 : Array Oper := rOps (sA (ifA (sB (sA (sB (sB (sB (blockOf (sA (sB (loopOf (blockOf (sB (sA (sB (sB (sB (sB (b3)))))))))))))))))))
noncomputable def r3_14 : Array Oper := rOps (sA (sB (sB (sB (sB (blockOf (sA (sB (loopOf (blockOf (sB (sA (sB (sB (sB (sB (b3)))))))))))))))))
noncomputable def r3_15 : Array Oper := rOps (sA (sA (loopOf (blockOf (sB (sB (sB (sB (sB (blockOf (sA (sB (loopOf (blockOf (sB (sA (sB (sB (sB (sB (b3)))))))))))))))))))))
noncomputable def r3_17 : Array Oper := rOps (sA (blockOf (sA (sB (loopOf (blockOf (sB (sB (sB (sB (sB (blockOf (sA (sB (loopOf (blockOf (sB (sA (sB (sB (sB (sB (b3)))))))))))))))))))))))
noncomputable def r3_18 : Array Oper := rOps (sA (sA (loopOf (blockOf (sB (blockOf (sA (sB (loopOf (blockOf (sB (sB (sB (sB (sB (blockOf (sA (sB (loopOf (blockOf (sB (sA (sB (sB (sB (sB (b3)))))))))))))))))))))))))))
noncomputable def r3_20 : Array Oper := rOps (sA (blockOf (sA (sB (loopOf (blockOf (sB (blockOf (sA (sB (loopOf (blockOf (sB (sB (sB (sB (sB (blockOf (sA (sB (loopOf (blockOf (sB (sA (sB (sB (sB (sB (b3)))))))))))))))))))))))))))))
noncomputable def r3_21 : Array Oper := rOps (sA (sB (blockOf (sA (sB (loopOf (blockOf (sB (blockOf (sA (sB (loopOf (blockOf (sB (sB (sB (sB (sB (blockOf (sA (sB (loopOf (blockOf (sB (sA (sB (sB (sB (sB (b3))))))))))))))))))))))))))))))
noncomputable def r3_22 : Array Oper := rOps (sA (ifA (sB (sB (blockOf (sA (sB (loopOf (blockOf (sB (blockOf (sA (sB (loopOf (blockOf (sB (sB (sB (sB (sB (blockOf (sA (sB (loopOf (blockOf (sB (sA (sB (sB (sB (sB (b3))))))))))))))))))))))))))))))))
noncomputable def r3_19 : Array Oper := rOps (sB (sB (loopOf (blockOf (sB (blockOf (sA (sB (loopOf (blockOf (sB (sB (sB (sB (sB (blockOf (sA (sB (loopOf (blockOf (sB (sA (sB (sB (sB (sB (b3)))))))))))))))))))))))))))
noncomputable def r3_16 : Array Oper := rOps (sB (sB (loopOf (blockOf (sB (sB (sB (sB (sB (blockOf (sA (sB (loopOf (blockOf (sB (sA (sB (sB (sB (sB (b3)))))))))))))))))))))
noncomputable def r3_8 : Array Oper := rOps (sB (sB (loopOf (blockOf (sB (sA (sB (sB (sB (sB (b3)))))))))))
noncomputable def r3_23 : Array Oper := rOps (sA (sB (sB (sB (sB (sB (b3)))))))
theorem b3_eq : b3 = .seq (.region 0 r3_0 false) (.seq (.seq (.region 1 r3_1 false) (.cond (.tmp 14) (.seq (.region 2 r3_2 false) (.ret)) (.skip))) (.seq (.region 3 r3_3 false) (.seq (.seq (.region 4 r3_4 false) (.cond (.tmp 25) (.seq (.region 5 r3_5 false) (.ret)) (.skip))) (.seq (.seq (.region 6 r3_6 false) (.block 0 (.loop (.seq (.seq (.region 7 r3_7 false) (.cond (.tmp 33) (.skip) (.exit 0))) (.seq (.block 1 (.seq (.region 9 r3_9 false) (.seq (.region 10 r3_10 false) (.seq (.region 11 r3_11 false) (.seq (.seq (.region 12 r3_12 false) (.cond (.tmp 63) (.seq (.region 13 r3_13 false) (.ret)) (.skip))) (.seq (.region 14 r3_14 false) (.block 2 (.loop (.seq (.seq (.region 15 r3_15 false) (.cond (.tmp 68) (.skip) (.exit 2))) (.seq (.block 3 (.seq (.region 17 r3_17 false) (.block 4 (.loop (.seq (.seq (.region 18 r3_18 false) (.cond (.tmp 75) (.skip) (.exit 4))) (.seq (.block 5 (.seq (.region 20 r3_20 true) (.seq (.region 21 r3_21 false) (.cond (.tmp 127) (.seq (.region 22 r3_22 false) (.ret)) (.skip))))) (.region 19 r3_19 false))))))) (.region 16 r3_16 false))))))))))) (.region 8 r3_8 false)))))) (.seq (.region 23 r3_23 false) (.ret)))))) := by kernel_rfl
theorem ret3 : Try.f3.results.toList = [.tmp 2] := by kernel_rfl
theorem hr3_1_0_1 : r3_1.toList.drop 1 = (r3_1.toList.drop 1).headD default :: r3_1.toList.drop 2 := by kernel_rfl
theorem hr3_7_0_3 : r3_7.toList.drop 3 = (r3_7.toList.drop 3).headD default :: r3_7.toList.drop 4 := by kernel_rfl
theorem hr3_7_4_6 : (r3_7.toList.drop 4).drop 2 = ((r3_7.toList.drop 4).drop 2).headD default :: r3_7.toList.drop 7 := by kernel_rfl
theorem hr3_9_0_1 : r3_9.toList.drop 1 = (r3_9.toList.drop 1).headD default :: r3_9.toList.drop 2 := by kernel_rfl
theorem hr3_10_0_3 : r3_10.toList.drop 3 = (r3_10.toList.drop 3).headD default :: r3_10.toList.drop 4 := by kernel_rfl
theorem hr3_10_4_4 : (r3_10.toList.drop 4) = ((r3_10.toList.drop 4)).headD default :: r3_10.toList.drop 5 := by kernel_rfl
theorem hr3_10_5_5 : (r3_10.toList.drop 5) = ((r3_10.toList.drop 5)).headD default :: r3_10.toList.drop 6 := by kernel_rfl
theorem hr3_11_0_1 : r3_11.toList.drop 1 = (r3_11.toList.drop 1).headD default :: r3_11.toList.drop 2 := by kernel_rfl
theorem hr3_12_0_5 : r3_12.toList.drop 5 = (r3_12.toList.drop 5).headD default :: r3_12.toList.drop 6 := by kernel_rfl
theorem hr3_12_6_6 : (r3_12.toList.drop 6) = ((r3_12.toList.drop 6)).headD default :: r3_12.toList.drop 7 := by kernel_rfl
theorem hr3_12_7_14 : (r3_12.toList.drop 7).drop 7 = ((r3_12.toList.drop 7).drop 7).headD default :: r3_12.toList.drop 15 := by kernel_rfl
theorem hr3_15_0_4 : r3_15.toList.drop 4 = (r3_15.toList.drop 4).headD default :: r3_15.toList.drop 5 := by kernel_rfl
theorem hr3_18_0_4 : r3_18.toList.drop 4 = (r3_18.toList.drop 4).headD default :: r3_18.toList.drop 5 := by kernel_rfl
theorem plan3_20 : ctx.plans 3 20 = some ⟨[0, 1, 2, 3, 4, 5, 6, 7, 8, 9, 10, 11], [1, 4, 6, 9], [⟨12, [], [6, 9]⟩, ⟨13, [], []⟩]⟩ := by kernel_rfl
theorem hr3_20_0_1_2_3_4_5_6_7_8_9_10_11_0_3 : (opsAt r3_20 [0, 1, 2, 3, 4, 5, 6, 7, 8, 9, 10, 11]).drop 3 = ((opsAt r3_20 [0, 1, 2, 3, 4, 5, 6, 7, 8, 9, 10, 11]).drop 3).headD default :: (opsAt r3_20 [0, 1, 2, 3, 4, 5, 6, 7, 8, 9, 10, 11]).drop 4 := by kernel_rfl
theorem hr3_20_0_1_2_3_4_5_6_7_8_9_10_11_4_4 : ((opsAt r3_20 [0, 1, 2, 3, 4, 5, 6, 7, 8, 9, 10, 11]).drop 4) = (((opsAt r3_20 [0, 1, 2, 3, 4, 5, 6, 7, 8, 9, 10, 11]).drop 4)).headD default :: (opsAt r3_20 [0, 1, 2, 3, 4, 5, 6, 7, 8, 9, 10, 11]).drop 5 := by kernel_rfl
theorem hr3_20_0_1_2_3_4_5_6_7_8_9_10_11_5_8 : ((opsAt r3_20 [0, 1, 2, 3, 4, 5, 6, 7, 8, 9, 10, 11]).drop 5).drop 3 = (((opsAt r3_20 [0, 1, 2, 3, 4, 5, 6, 7, 8, 9, 10, 11]).drop 5).drop 3).headD default :: (opsAt r3_20 [0, 1, 2, 3, 4, 5, 6, 7, 8, 9, 10, 11]).drop 9 := by kernel_rfl
theorem hr3_20_0_1_2_3_4_5_6_7_8_9_10_11_9_9 : ((opsAt r3_20 [0, 1, 2, 3, 4, 5, 6, 7, 8, 9, 10, 11]).drop 9) = (((opsAt r3_20 [0, 1, 2, 3, 4, 5, 6, 7, 8, 9, 10, 11]).drop 9)).headD default :: (opsAt r3_20 [0, 1, 2, 3, 4, 5, 6, 7, 8, 9, 10, 11]).drop 10 := by kernel_rfl
theorem hr3_21_0_4 : r3_21.toList.drop 4 = (r3_21.toList.drop 4).headD default :: r3_21.toList.drop 5 := by kernel_rfl
theorem hr3_21_5_10 : (r3_21.toList.drop 5).drop 5 = ((r3_21.toList.drop 5).drop 5).headD default :: r3_21.toList.drop 11 := by kernel_rfl
theorem hr3_21_11_16 : (r3_21.toList.drop 11).drop 5 = ((r3_21.toList.drop 11).drop 5).headD default :: r3_21.toList.drop 17 := by kernel_rfl
theorem hr3_21_17_30 : (r3_21.toList.drop 17).drop 13 = ((r3_21.toList.drop 17).drop 13).headD default :: r3_21.toList.drop 31 := by kernel_rfl
theorem hr3_21_31_36 : (r3_21.toList.drop 31).drop 5 = ((r3_21.toList.drop 31).drop 5).headD default :: r3_21.toList.drop 37 := by kernel_rfl
theorem hr3_21_17_22 : (r3_21.toList.drop 17).drop 5 = ((r3_21.toList.drop 17).drop 5).headD default :: r3_21.toList.drop 23 := by kernel_rfl
theorem hr3_21_23_30 : (r3_21.toList.drop 23).drop 7 = ((r3_21.toList.drop 23).drop 7).headD default :: r3_21.toList.drop 31 := by kernel_rfl
theorem hr3_19_0_1 : r3_19.toList.drop 1 = (r3_19.toList.drop 1).headD default :: r3_19.toList.drop 2 := by kernel_rfl
theorem hr3_16_0_1 : r3_16.toList.drop 1 = (r3_16.toList.drop 1).headD default :: r3_16.toList.drop 2 := by kernel_rfl
theorem hr3_8_0_1 : r3_8.toList.drop 1 = (r3_8.toList.drop 1).headD default :: r3_8.toList.drop 2 := by kernel_rfl
theorem hr3_23_0_0 : r3_23.toList = (r3_23.toList).headD default :: r3_23.toList.drop 1 := by kernel_rfl
set_option maxRecDepth 100000 in
set_option maxHeartbeats 0 in
theorem hf3 (L : List Ch) (cl : Nat) (hcl : (L.length == 0 && cl == UNK) = false) : HF Try.prog ctx Try.f3 [.slice (some ⟨0, 0, none⟩) L.length cl] (mC L) fun u _ => u = .bool true := by
  intro B w0
  show HL _ _ _ _ b3 _ _ _
  rw [b3_eq]
  refine HL.seq ?_
  refine HL.reg (C := ctx) (call := callL lE) (fid := 3) (sndL (l := lE) (lE_ok _ _) (by kernel_rfl)) ?_
  refine OpsP.rest (by kernel_rfl) ?_
  refine HL.seq ?_
  refine HL.seq ?_
  refine HL.reg (C := ctx) (call := callL lE) (fid := 3) (sndL (l := lE) (lE_ok _ _) (by kernel_rfl)) ?_
  refine OpsP.take 1 (by kernel_rfl) ?_
  refine bool_by (heavyM L) (fun q1 => ?_) fun q1 => ?_
  ·
    refine OpsP.stepAt hr3_1_0_1 (step_call (g := 12) (f := .func 12) (args := #[.tmp 13]) (ats := #[22]) (l := [.slice (some ⟨0, 0, none⟩) L.length cl]) (by kernel_rfl) (by kernel_rfl) (by kernel_rfl) (by kernel_rfl) (callE12 (by kernel_rfl) hcl q1)) ?_
    refine OpsP.nil ?_
    refine HL.cond (t := true) (by kernel_rfl) rfl (fun _ => ?_) fun h => by cases h
    refine HL.seq ?_
    refine HL.reg (C := ctx) (call := callL lE) (fid := 3) (sndL (l := lE) (lE_ok _ _) (by kernel_rfl)) ?_
    refine OpsP.rest (by kernel_rfl) ?_
    refine HL.ret ?_
    exact Ends.ret1 (C := ctx) (R := fun u _ => u = .bool true) ret3 (v := .bool true) (by kernel_rfl) rfl
  ·
    refine OpsP.stepAt hr3_1_0_1 (step_call (g := 12) (f := .func 12) (args := #[.tmp 13]) (ats := #[22]) (l := [.slice (some ⟨0, 0, none⟩) L.length cl]) (by kernel_rfl) (by kernel_rfl) (by kernel_rfl) (by kernel_rfl) (callE12 (by kernel_rfl) hcl q1)) ?_
    refine OpsP.nil ?_
    refine HL.cond (t := false) (by kernel_rfl) rfl (fun h => by cases h) fun _ => ?_
    refine HL.skip ?_
    refine HL.seq ?_
    refine HL.reg (C := ctx) (call := callL lE) (fid := 3) (sndL (l := lE) (lE_ok _ _) (by kernel_rfl)) ?_
    refine OpsP.rest (by kernel_rfl) ?_
    refine HL.seq ?_
    refine HL.seq ?_
    refine HL.reg (C := ctx) (call := callL lE) (fid := 3) (sndL (l := lE) (lE_ok _ _) (by kernel_rfl)) ?_
    refine OpsP.rest (by kernel_rfl) ?_
    refine HL.cond (t := false) (by kernel_rfl) rfl (fun h => by cases h) fun _ => ?_
    refine HL.skip ?_
    refine HL.seq ?_
    refine HL.seq ?_
    refine HL.reg (C := ctx) (call := callL lE) (fid := 3) (sndL (l := lE) (lE_ok _ _) (by kernel_rfl)) ?_
    refine OpsP.rest (by kernel_rfl) ?_
    refine HL.blockLoopW (InvL L cl) ?_ (n := L.length) (Weak.renW (σ := sigL [0, 5, 2, 4]) (m1 := mE L 1 2 [zN] 1) (l := [(0, .slice (some ⟨0, 0, none⟩) L.length cl), (3, ptr 1 0), (5, .int .i64 ((0 : Nat) : Int))]) (keepsE (l := [0, 5, 2, 4]) (L := L) (v := 1) (nx := 2) (zs := [zN]) (c := 1) (st := .sole) rfl (by decide) (by simp) (by decide) (by kernel_rfl) (by kernel_rfl) (by kernel_rfl) (by kernel_rfl)) ⟨ren_at (v := .slice (some ⟨0, 0, none⟩) L.length cl) (by kernel_rfl) (VRen.slice (show 0 < 4 by decide) rfl hcl), ren_at (v := ptr 5 0) (by kernel_rfl) (VRen.ptr (show 1 < 4 by decide) rfl), ren_at (v := .int .i64 ((0 : Nat) : Int)) (by kernel_rfl) (VRen.int _ _), trivial⟩) ⟨0, 1, 2, [zN], 1, by omega, by omega, invE_new, by decide, by decide, .inr rfl, rfl, rfl⟩
    rintro n s m ⟨i, v, nx, zs, c, rfl, hiL, hI, hv, hvm, hcap, rfl, rfl⟩
    have hge := hI.ge
    have hle := hI.le
    have hv1 : v < 1099511627777 := by omega
    refine HL.seq ?_
    refine HL.seq ?_
    refine HL.reg (C := ctx) (call := callL lE) (fid := 3) (sndL (l := lE) (lE_ok _ _) (by kernel_rfl)) ?_
    refine OpsP.take 3 (by kernel_rfl) ?_
    refine OpsP.boolT 29 hr3_7_0_3 (by kernel_rfl) (decide (((i : Nat) : Int) < ((L.length : Nat) : Int))) (by kernel_rfl) (fun q2 => ?_) fun q2 => ?_
    ·
      have hi : i < L.length := by have := of_decide_eq_true q2; omega
      obtain ⟨k, hk⟩ : ∃ k, L[i]? = some k := ⟨_, List.getElem?_eq_getElem hi⟩
      refine OpsP.take 2 (by kernel_rfl) ?_
      refine OpsP.boolT 32 hr3_7_4_6 (by kernel_rfl) (decide (((i : Nat) : Int) < 100)) (by kernel_rfl) (fun q3 => ?_) fun q3 => ?_
      ·
        refine OpsP.rest (by kernel_rfl) ?_
        refine HL.cond (t := true) (by kernel_rfl) rfl (fun _ => ?_) fun h => by cases h
        refine HL.skip ?_
        refine HL.seq ?_
        refine HL.block ?_
        refine HL.seq ?_
        refine HL.reg (C := ctx) (call := callL lE) (fid := 3) (sndL (l := lE) (lE_ok _ _) (by kernel_rfl)) ?_
        refine OpsP.take 1 (by kernel_rfl) ?_
        refine OpsP.stepAt hr3_9_0_1 (step_call (g := 14) (f := .func 14) (args := #[.tmp 36]) (ats := #[24]) (l := [ptr 1 0]) (by kernel_rfl) (by kernel_rfl) (by kernel_rfl) (by kernel_rfl) (callE14 (v := v) (nx := nx) (z := 2) (c := c) (zs := zs) (h := .slice (some ⟨3, 0, none⟩) 4 HC4) (by kernel_rfl) (by kernel_rfl) (by omega) (by omega))) ?_
        refine OpsP.rest (by kernel_rfl) ?_
        refine HL.seq ?_
        refine HL.reg (C := ctx) (call := callL lE) (fid := 3) (sndL (l := lE) (lE_ok _ _) (by kernel_rfl)) ?_
        refine OpsP.take 3 (by kernel_rfl) ?_
        refine OpsP.stepAt hr3_10_0_3 (step_indexAddr (x := .tmp 39) (i := .tmp 40) (t := 22) (e := 34) (z := 5) (j := i) (n := L.length) (c := cl) (b := 0) (off := 0) (k := .i64) (iv := (((i : Nat) : Int))) (by kernel_rfl) (by kernel_rfl) (by kernel_rfl) (by kernel_rfl) (by kernel_rfl) (by kernel_rfl) rfl hi) ?_
        refine OpsP.stepAt hr3_10_4_4 (step_loadC (a := .tmp 41) (b := 0) (j := i) (st := .ro) (l := L) (x := k) (by kernel_rfl) (by kernel_rfl) (by kernel_rfl) (by kernel_rfl) rfl hk) ?_
        refine app_by (v := v) (k := k) hI (fun hA hg => ?_) fun nx2 zs2 hA hlt hI2 hg => ?_
        ·
          refine OpsP.stepAt hr3_10_5_5 (step_call (g := 15) (f := .func 15) (args := #[.tmp 38, .tmp 42]) (ats := #[24, 34]) (l := [ptr 1 0, .agg ⟨k.cells⟩]) (by kernel_rfl) (by kernel_rfl) (by kernel_rfl) (by kernel_rfl) (callE15 (v := v) (nx := nx) (zs := zs) (c := c) (k := k) (r := (false, v, nx, zs)) hI hv hcap (by kernel_rfl) (by kernel_rfl) (by kernel_rfl) hA)) ?_
          have hne : decide (v = (v + 1)) = false := decide_eq_false (by omega)
          refine OpsP.rest (by kernel_rfl) ?_
          refine HL.seq ?_
          refine HL.reg (C := ctx) (call := callL lE) (fid := 3) (sndL (l := lE) (lE_ok _ _) (by kernel_rfl)) ?_
          refine OpsP.take 1 (by kernel_rfl) ?_
          refine OpsP.stepAt hr3_11_0_1 (step_call (g := 14) (f := .func 14) (args := #[.tmp 44]) (ats := #[24]) (l := [ptr 1 0]) (by kernel_rfl) (by kernel_rfl) (by kernel_rfl) (by kernel_rfl) (callE14 (v := v) (nx := nx) (z := 7) (c := (UNK + 9 + UNK * zs.length)) (zs := zs) (h := .slice (some ⟨3, 0, none⟩) 4 HC4) (by kernel_rfl) (by kernel_rfl) (by omega) (by omega))) ?_
          refine OpsP.rest (by kernel_rfl) ?_
          refine HL.seq ?_
          refine HL.seq ?_
          refine HL.reg (C := ctx) (call := callL lE) (fid := 3) (sndL (l := lE) (lE_ok _ _) (by kernel_rfl)) ?_
          refine OpsP.take 5 (by kernel_rfl) ?_
          refine OpsP.stepAt hr3_12_0_5 (step_add (t := 3) (w := 3) (x := .tmp 50) (y := .const (.int .i64 1)) (k := .i64) (a := v) (b := 1) (c := (v + 1)) (by kernel_rfl) (by kernel_rfl) (by kernel_rfl) (by kernel_rfl) (wrap_p1 hv hv1)) ?_
          refine OpsP.boolK 52 hr3_12_6_6 (by kernel_rfl) (decide (v = (v + 1))) (by kernel_rfl) hne ?_
          refine OpsP.take 7 (by kernel_rfl) ?_
          refine OpsP.stepAt hr3_12_7_14 (step_call (g := 16) (f := .func 16) (args := #[.tmp 58, .tmp 59]) (ats := #[30, 30]) (l := [.agg ⟨[.int .i64 (v), .int .i64 (nx), .slice (some ⟨4, 0, none⟩) zs.length ((UNK + 9 + UNK * zs.length))]⟩, .agg ⟨[.int .i64 (v), .int .i64 (nx), .slice (some ⟨8, 0, none⟩) zs.length ((UNK + 9 + UNK * zs.length))]⟩]) (by kernel_rfl) (by kernel_rfl) (by kernel_rfl) (by kernel_rfl) (callE16 (a := 4) (b := 8) (by kernel_rfl) (by kernel_rfl) (by omega) (by omega))) ?_
          refine OpsP.rest (by kernel_rfl) ?_
          refine HL.cond (t := false) (by kernel_rfl) rfl (fun h => by cases h) fun _ => ?_
          refine HL.skip ?_
          refine HL.seq ?_
          refine HL.reg (C := ctx) (call := callL lE) (fid := 3) (sndL (l := lE) (lE_ok _ _) (by kernel_rfl)) ?_
          refine OpsP.rest (by kernel_rfl) ?_
          refine HL.blockLoopW (fun n s m => ∃ p : Nat, n = zs.length - p ∧ p ≤ zs.length ∧ s = mkS 129 [(0, .slice (some ⟨0, 0, none⟩) L.length cl), (3, ptr 1 0), (5, .int .i64 ((i : Nat) : Int)), (6, ptr 4 0), (8, ptr 5 0), (9, .int .i64 ((p : Nat) : Int))] ∧ m = mFE L v nx zs (UNK + 9 + UNK * zs.length) v nx zs) ?_ (n := zs.length) (Weak.renW (σ := sigL [0, 1, 7, 3, 5, 9, 4, 8]) (m1 := mFE L v nx zs ((UNK + 9 + UNK * zs.length)) v nx zs) (l := [(0, .slice (some ⟨0, 0, none⟩) L.length cl), (3, ptr 1 0), (5, .int .i64 ((i : Nat) : Int)), (6, ptr 4 0), (8, ptr 5 0), (9, .int .i64 ((0 : Nat) : Int))]) (keepsF (l := [0, 1, 7, 3, 5, 9, 4, 8]) (L := L) (v := v) (nx := nx) (zs := zs) (c := (UNK + 9 + UNK * zs.length)) (va := v) (na := nx) (za := zs) (t4 := .sole) (t5 := .sole) (t6 := .sole) (t7 := .sole) rfl (by decide) (by simp) (by simp) (by simp) (by simp) (by omega) (by omega) (by kernel_rfl) (by kernel_rfl) (by kernel_rfl) (by kernel_rfl) (by kernel_rfl) (by kernel_rfl) (by kernel_rfl) (by kernel_rfl)) ⟨ren_at (v := .slice (some ⟨0, 0, none⟩) L.length cl) (by kernel_rfl) (VRen.slice (show 0 < 8 by decide) rfl hcl), ren_at (v := ptr 1 0) (by kernel_rfl) (VRen.ptr (show 1 < 8 by decide) rfl), ren_at (v := .int .i64 ((i : Nat) : Int)) (by kernel_rfl) (VRen.int _ _), ren_at (v := ptr 5 0) (by kernel_rfl) (VRen.ptr (show 4 < 8 by decide) rfl), ren_at (v := ptr 9 0) (by kernel_rfl) (VRen.ptr (show 5 < 8 by decide) rfl), ren_at (v := .int .i64 ((0 : Nat) : Int)) (by kernel_rfl) (VRen.int _ _), trivial⟩) ⟨0, by omega, by omega, rfl, rfl⟩
          rintro n s m ⟨p, rfl, hpl, rfl, rfl⟩
          refine HL.seq ?_
          refine HL.seq ?_
          refine HL.reg (C := ctx) (call := callL lE) (fid := 3) (sndL (l := lE) (lE_ok _ _) (by kernel_rfl)) ?_
          refine OpsP.take 4 (by kernel_rfl) ?_
          refine OpsP.boolT 68 hr3_15_0_4 (by kernel_rfl) (decide (((p : Nat) : Int) < ((zs.length : Nat) : Int))) (by kernel_rfl) (fun q4 => ?_) fun q4 => ?_
          ·
            have hp : p < zs.length := by have := of_decide_eq_true q4; omega
            obtain ⟨x, hx⟩ : ∃ x, zs[p]? = some x := ⟨_, List.getElem?_eq_getElem hp⟩
            refine OpsP.nil ?_
            refine HL.cond (t := true) (by kernel_rfl) rfl (fun _ => ?_) fun h => by cases h
            refine HL.skip ?_
            refine HL.seq ?_
            refine HL.block ?_
            refine HL.seq ?_
            refine HL.reg (C := ctx) (call := callL lE) (fid := 3) (sndL (l := lE) (lE_ok _ _) (by kernel_rfl)) ?_
            refine OpsP.rest (by kernel_rfl) ?_
            refine HL.blockLoopW (fun n s m => ∃ r : Nat, n = zs.length - r ∧ r ≤ zs.length ∧ s = mkS 129 [(0, .slice (some ⟨0, 0, none⟩) L.length cl), (3, ptr 1 0), (5, .int .i64 ((i : Nat) : Int)), (6, ptr 4 0), (8, ptr 5 0), (9, .int .i64 ((p : Nat) : Int)), (10, .int .i64 ((r : Nat) : Int))] ∧ m = mFE L v nx zs (UNK + 9 + UNK * zs.length) v nx zs) ?_ (n := zs.length) (Weak.renW (σ := sigL [0, 1, 2, 3, 4, 5, 6, 7]) (m1 := mFE L v nx zs ((UNK + 9 + UNK * zs.length)) v nx zs) (l := [(0, .slice (some ⟨0, 0, none⟩) L.length cl), (3, ptr 1 0), (5, .int .i64 ((i : Nat) : Int)), (6, ptr 4 0), (8, ptr 5 0), (9, .int .i64 ((p : Nat) : Int)), (10, .int .i64 ((0 : Nat) : Int))]) (keepsF (l := [0, 1, 2, 3, 4, 5, 6, 7]) (L := L) (v := v) (nx := nx) (zs := zs) (c := (UNK + 9 + UNK * zs.length)) (va := v) (na := nx) (za := zs) (t4 := .ro) (t5 := .ro) (t6 := .ro) (t7 := .ro) rfl (by decide) (by simp) (by simp) (by simp) (by simp) (by omega) (by omega) (by kernel_rfl) (by kernel_rfl) (by kernel_rfl) (by kernel_rfl) (by kernel_rfl) (by kernel_rfl) (by kernel_rfl) (by kernel_rfl)) ⟨ren_at (v := .slice (some ⟨0, 0, none⟩) L.length cl) (by kernel_rfl) (VRen.slice (show 0 < 8 by decide) rfl hcl), ren_at (v := ptr 1 0) (by kernel_rfl) (VRen.ptr (show 1 < 8 by decide) rfl), ren_at (v := .int .i64 ((i : Nat) : Int)) (by kernel_rfl) (VRen.int _ _), ren_at (v := ptr 4 0) (by kernel_rfl) (VRen.ptr (show 4 < 8 by decide) rfl), ren_at (v := ptr 5 0) (by kernel_rfl) (VRen.ptr (show 5 < 8 by decide) rfl), ren_at (v := .int .i64 ((p : Nat) : Int)) (by kernel_rfl) (VRen.int _ _), ren_at (v := .int .i64 ((0 : Nat) : Int)) (by kernel_rfl) (VRen.int _ _), trivial⟩) ⟨0, by omega, by omega, rfl, rfl⟩
            rintro n s m ⟨r, rfl, hrl, rfl, rfl⟩
            refine HL.seq ?_
            refine HL.seq ?_
            refine HL.reg (C := ctx) (call := callL lE) (fid := 3) (sndL (l := lE) (lE_ok _ _) (by kernel_rfl)) ?_
            refine OpsP.take 4 (by kernel_rfl) ?_
            refine OpsP.boolT 75 hr3_18_0_4 (by kernel_rfl) (decide (((r : Nat) : Int) < ((zs.length : Nat) : Int))) (by kernel_rfl) (fun q5 => ?_) fun q5 => ?_
            ·
              have hr : r < zs.length := by have := of_decide_eq_true q5; omega
              obtain ⟨y, hy⟩ : ∃ y, zs[r]? = some y := ⟨_, List.getElem?_eq_getElem hr⟩
              have hbad : badE x y = false := good_bad (hg x (List.mem_of_getElem? hx) y (List.mem_of_getElem? hy))
              refine OpsP.nil ?_
              refine HL.cond (t := true) (by kernel_rfl) rfl (fun _ => ?_) fun h => by cases h
              refine HL.skip ?_
              refine HL.seq ?_
              refine HL.block ?_
              refine HL.seq ?_
              refine HL.run (C := ctx) (call := callL lE) (fid := 3) (sndL (l := lE) (lE_ok _ _) (by kernel_rfl)) (RunP.plan plan3_20 (by kernel_rfl) (by kernel_rfl) ?_)
              refine OpsP.take 3 (by kernel_rfl) ?_
              refine OpsP.stepAt hr3_20_0_1_2_3_4_5_6_7_8_9_10_11_0_3 (step_indexAddr (x := .tmp 79) (i := .tmp 80) (t := 28) (e := 39) (z := 9) (j := p) (n := zs.length) (c := ((UNK + 9 + UNK * zs.length))) (b := 6) (off := 0) (k := .i64) (iv := (((p : Nat) : Int))) (by kernel_rfl) (by kernel_rfl) (by kernel_rfl) (by kernel_rfl) (by kernel_rfl) (by kernel_rfl) rfl hp) ?_
              refine OpsP.stepAt hr3_20_0_1_2_3_4_5_6_7_8_9_10_11_4_4 (step_loadF (t := 39) (a := .tmp 81) (b := 6) (j := p) (f := 0) (n := 9) (ag := true) (st := .ro) (zs := zs) (rest := []) (z := x) (v := .agg ⟨(x : Z).cells⟩) (by kernel_rfl) (by kernel_rfl) (by kernel_rfl) (by kernel_rfl) (app_nil (by kernel_rfl)) rfl hx (by decide) (by kernel_rfl)) ?_
              refine OpsP.take 3 (by kernel_rfl) ?_
              refine OpsP.stepAt hr3_20_0_1_2_3_4_5_6_7_8_9_10_11_5_8 (step_indexAddr (x := .tmp 84) (i := .tmp 85) (t := 28) (e := 39) (z := 9) (j := r) (n := zs.length) (c := ((UNK + 9 + UNK * zs.length))) (b := 7) (off := 0) (k := .i64) (iv := (((r : Nat) : Int))) (by kernel_rfl) (by kernel_rfl) (by kernel_rfl) (by kernel_rfl) (by kernel_rfl) (by kernel_rfl) rfl hr) ?_
              refine OpsP.stepAt hr3_20_0_1_2_3_4_5_6_7_8_9_10_11_9_9 (step_loadF (t := 39) (a := .tmp 86) (b := 7) (j := r) (f := 0) (n := 9) (ag := true) (st := .ro) (zs := zs) (rest := []) (z := y) (v := .agg ⟨(y : Z).cells⟩) (by kernel_rfl) (by kernel_rfl) (by kernel_rfl) (by kernel_rfl) (app_nil (by kernel_rfl)) rfl hy (by decide) (by kernel_rfl)) ?_
              refine OpsP.rest (by kernel_rfl) ?_
              refine ⟨(again_k (v := .slice (some ⟨6, 0, none⟩) zs.length ((UNK + 9 + UNK * zs.length))) (d := 79) (by kernel_rfl) (by kernel_rfl) (by kernel_rfl) (by kernel_rfl) (by kernel_rfl) (veq_slice (by kernel_rfl)) (again_k (v := .agg ⟨[.int .i64 (x.id), .string x.lo, .string x.hi, .int .i64 (x.own), .int .i64 (x.ep), .int .i64 (x.pend), .int .i64 (x.to), .string x.key, .int .i64 (x.new)]⟩) (d := 82) (by kernel_rfl) (by kernel_rfl) (prim_loadF (t := 39) (a := .tmp 81) (b := 6) (j := p) (f := 0) (n := 9) (ag := true) (st := .ro) (zs := zs) (rest := []) (z := x) (v := .agg ⟨(x : Z).cells⟩) (by kernel_rfl) (by kernel_rfl) (by kernel_rfl) (app_nil (by kernel_rfl)) rfl hx (by decide) (by kernel_rfl)) (by kernel_rfl) (by kernel_rfl) (veq_aggO (by kernel_rfl)) (again_k (v := .slice (some ⟨7, 0, none⟩) zs.length ((UNK + 9 + UNK * zs.length))) (d := 84) (by kernel_rfl) (by kernel_rfl) (by kernel_rfl) (by kernel_rfl) (by kernel_rfl) (veq_slice (by kernel_rfl)) (again_k (v := .agg ⟨[.int .i64 (y.id), .string y.lo, .string y.hi, .int .i64 (y.own), .int .i64 (y.ep), .int .i64 (y.pend), .int .i64 (y.to), .string y.key, .int .i64 (y.new)]⟩) (d := 87) (by kernel_rfl) (by kernel_rfl) (prim_loadF (t := 39) (a := .tmp 86) (b := 7) (j := r) (f := 0) (n := 9) (ag := true) (st := .ro) (zs := zs) (rest := []) (z := y) (v := .agg ⟨(y : Z).cells⟩) (by kernel_rfl) (by kernel_rfl) (by kernel_rfl) (app_nil (by kernel_rfl)) rfl hy (by decide) (by kernel_rfl)) (by kernel_rfl) (by kernel_rfl) (veq_aggO (by kernel_rfl)) again_nil)))), ?_⟩
              refine OpsP.rest (by kernel_rfl) ?_
              refine ⟨(again_k (v := .slice (some ⟨7, 0, none⟩) zs.length ((UNK + 9 + UNK * zs.length))) (d := 84) (by kernel_rfl) (by kernel_rfl) (by kernel_rfl) (by kernel_rfl) (by kernel_rfl) (veq_slice (by kernel_rfl)) (again_k (v := .agg ⟨[.int .i64 (y.id), .string y.lo, .string y.hi, .int .i64 (y.own), .int .i64 (y.ep), .int .i64 (y.pend), .int .i64 (y.to), .string y.key, .int .i64 (y.new)]⟩) (d := 87) (by kernel_rfl) (by kernel_rfl) (prim_loadF (t := 39) (a := .tmp 86) (b := 7) (j := r) (f := 0) (n := 9) (ag := true) (st := .ro) (zs := zs) (rest := []) (z := y) (v := .agg ⟨(y : Z).cells⟩) (by kernel_rfl) (by kernel_rfl) (by kernel_rfl) (app_nil (by kernel_rfl)) rfl hy (by decide) (by kernel_rfl)) (by kernel_rfl) (by kernel_rfl) (veq_aggO (by kernel_rfl)) again_nil)), ?_⟩
              refine OpsP.rest (by kernel_rfl) ?_
              refine ⟨again_nil, ?_⟩
              refine HL.seqW (s1 := mkS 129 [(0, .slice (some ⟨0, 0, none⟩) L.length cl), (3, ptr 1 0), (5, .int .i64 ((i : Nat) : Int)), (6, ptr 4 0), (8, ptr 5 0), (9, .int .i64 ((p : Nat) : Int)), (10, .int .i64 ((r : Nat) : Int)), (127, .bool false)]) (m1 := mFE L v nx zs (UNK + 9 + UNK * zs.length) v nx zs) ?_ ?_
              ·
                refine HL.reg (C := ctx) (call := callL lE) (fid := 3) (sndL (l := lE) (lE_ok _ _) (by kernel_rfl)) ?_
                refine OpsP.take 4 (by kernel_rfl) ?_
                refine OpsP.boolT 92 hr3_21_0_4 (by kernel_rfl) (decide (x.id = y.id)) (by kernel_rfl) (fun q6 => ?_) fun q6 => ?_
                ·
                  refine OpsP.take 5 (by kernel_rfl) ?_
                  refine OpsP.boolT 98 hr3_21_5_10 (by kernel_rfl) (decide (y.ep < x.ep)) (by kernel_rfl) (fun q7 => ?_) fun q7 => ?_
                  ·
                    refine OpsP.rest (by kernel_rfl) ?_
                    exact absurd (show badE x y = true from by unfold badE; simp only [q6, q7] <;> rfl) (by rw [hbad]; simp)
                  ·
                    refine OpsP.take 5 (by kernel_rfl) ?_
                    refine OpsP.boolN 104 hr3_21_11_16 (by kernel_rfl) (decide (y.own = x.own)) (by kernel_rfl) (fun q8 => ?_) fun q8 => ?_
                    ·
                      refine OpsP.take 13 (by kernel_rfl) ?_
                      refine bool_by (eqSp y x) (fun q9 => ?_) fun q9 => ?_
                      ·
                        refine OpsP.stepAt hr3_21_17_30 (step_eqv (x := .tmp 115) (y := .tmp 117) (t := 37) (q := 37) (p := false) (by kernel_rfl) (by kernel_rfl) (by kernel_rfl) (by kernel_rfl) (eqv_sp q9)) ?_
                        refine OpsP.rest (by kernel_rfl) ?_
                        exact ⟨rfl, (Weak.renW (σ := sigL [0, 1, 2, 3, 4, 5, 6, 7]) (m1 := mFE L v nx zs ((UNK + 9 + UNK * zs.length)) v nx zs) (l := [(0, .slice (some ⟨0, 0, none⟩) L.length cl), (3, ptr 1 0), (5, .int .i64 ((i : Nat) : Int)), (6, ptr 4 0), (8, ptr 5 0), (9, .int .i64 ((p : Nat) : Int)), (10, .int .i64 ((r : Nat) : Int)), (127, .bool false)]) (keepsF (l := [0, 1, 2, 3, 4, 5, 6, 7]) (L := L) (v := v) (nx := nx) (zs := zs) (c := (UNK + 9 + UNK * zs.length)) (va := v) (na := nx) (za := zs) (t4 := .ro) (t5 := .ro) (t6 := .ro) (t7 := .ro) rfl (by decide) (by simp) (by simp) (by simp) (by simp) (by omega) (by omega) (by kernel_rfl) (by kernel_rfl) (by kernel_rfl) (by kernel_rfl) (by kernel_rfl) (by kernel_rfl) (by kernel_rfl) (by kernel_rfl)) ⟨ren_at (v := .slice (some ⟨0, 0, none⟩) L.length cl) (by kernel_rfl) (VRen.slice (show 0 < 8 by decide) rfl hcl), ren_at (v := ptr 1 0) (by kernel_rfl) (VRen.ptr (show 1 < 8 by decide) rfl), ren_at (v := .int .i64 ((i : Nat) : Int)) (by kernel_rfl) (VRen.int _ _), ren_at (v := ptr 4 0) (by kernel_rfl) (VRen.ptr (show 4 < 8 by decide) rfl), ren_at (v := ptr 5 0) (by kernel_rfl) (VRen.ptr (show 5 < 8 by decide) rfl), ren_at (v := .int .i64 ((p : Nat) : Int)) (by kernel_rfl) (VRen.int _ _), ren_at (v := .int .i64 ((r : Nat) : Int)) (by kernel_rfl) (VRen.int _ _), ren_at (v := .bool false) (by kernel_rfl) (VRen.bool _), trivial⟩)⟩
                      ·
                        refine OpsP.stepAt hr3_21_17_30 (step_eqv (x := .tmp 115) (y := .tmp 117) (t := 37) (q := 37) (p := false) (by kernel_rfl) (by kernel_rfl) (by kernel_rfl) (by kernel_rfl) (eqv_sp q9)) ?_
                        refine OpsP.take 5 (by kernel_rfl) ?_
                        refine OpsP.boolT 124 hr3_21_31_36 (by kernel_rfl) (decide (y.ep ≤ x.ep)) (by kernel_rfl) (fun q10 => ?_) fun q10 => ?_
                        ·
                          refine OpsP.rest (by kernel_rfl) ?_
                          exact absurd (show badE x y = true from by unfold badE; simp only [q6, q7, q8, q9, q10] <;> rfl) (by rw [hbad]; simp)
                        ·
                          refine OpsP.rest (by kernel_rfl) ?_
                          exact ⟨rfl, (Weak.renW (σ := sigL [0, 1, 2, 3, 4, 5, 6, 7]) (m1 := mFE L v nx zs ((UNK + 9 + UNK * zs.length)) v nx zs) (l := [(0, .slice (some ⟨0, 0, none⟩) L.length cl), (3, ptr 1 0), (5, .int .i64 ((i : Nat) : Int)), (6, ptr 4 0), (8, ptr 5 0), (9, .int .i64 ((p : Nat) : Int)), (10, .int .i64 ((r : Nat) : Int)), (127, .bool false)]) (keepsF (l := [0, 1, 2, 3, 4, 5, 6, 7]) (L := L) (v := v) (nx := nx) (zs := zs) (c := (UNK + 9 + UNK * zs.length)) (va := v) (na := nx) (za := zs) (t4 := .ro) (t5 := .ro) (t6 := .ro) (t7 := .ro) rfl (by decide) (by simp) (by simp) (by simp) (by simp) (by omega) (by omega) (by kernel_rfl) (by kernel_rfl) (by kernel_rfl) (by kernel_rfl) (by kernel_rfl) (by kernel_rfl) (by kernel_rfl) (by kernel_rfl)) ⟨ren_at (v := .slice (some ⟨0, 0, none⟩) L.length cl) (by kernel_rfl) (VRen.slice (show 0 < 8 by decide) rfl hcl), ren_at (v := ptr 1 0) (by kernel_rfl) (VRen.ptr (show 1 < 8 by decide) rfl), ren_at (v := .int .i64 ((i : Nat) : Int)) (by kernel_rfl) (VRen.int _ _), ren_at (v := ptr 4 0) (by kernel_rfl) (VRen.ptr (show 4 < 8 by decide) rfl), ren_at (v := ptr 5 0) (by kernel_rfl) (VRen.ptr (show 5 < 8 by decide) rfl), ren_at (v := .int .i64 ((p : Nat) : Int)) (by kernel_rfl) (VRen.int _ _), ren_at (v := .int .i64 ((r : Nat) : Int)) (by kernel_rfl) (VRen.int _ _), ren_at (v := .bool false) (by kernel_rfl) (VRen.bool _), trivial⟩)⟩
                    ·
                      refine OpsP.take 5 (by kernel_rfl) ?_
                      refine OpsP.boolT 110 hr3_21_17_22 (by kernel_rfl) (decide (y.ep ≤ x.ep)) (by kernel_rfl) (fun q11 => ?_) fun q11 => ?_
                      ·
                        refine OpsP.rest (by kernel_rfl) ?_
                        exact absurd (show badE x y = true from by unfold badE; simp only [q6, q7, q8, q11] <;> rfl) (by rw [hbad]; simp)
                      ·
                        refine OpsP.take 7 (by kernel_rfl) ?_
                        refine bool_by (eqSp y x) (fun q12 => ?_) fun q12 => ?_
                        ·
                          refine OpsP.stepAt hr3_21_23_30 (step_eqv (x := .tmp 115) (y := .tmp 117) (t := 37) (q := 37) (p := false) (by kernel_rfl) (by kernel_rfl) (by kernel_rfl) (by kernel_rfl) (eqv_sp q12)) ?_
                          refine OpsP.rest (by kernel_rfl) ?_
                          exact ⟨rfl, (Weak.renW (σ := sigL [0, 1, 2, 3, 4, 5, 6, 7]) (m1 := mFE L v nx zs ((UNK + 9 + UNK * zs.length)) v nx zs) (l := [(0, .slice (some ⟨0, 0, none⟩) L.length cl), (3, ptr 1 0), (5, .int .i64 ((i : Nat) : Int)), (6, ptr 4 0), (8, ptr 5 0), (9, .int .i64 ((p : Nat) : Int)), (10, .int .i64 ((r : Nat) : Int)), (127, .bool false)]) (keepsF (l := [0, 1, 2, 3, 4, 5, 6, 7]) (L := L) (v := v) (nx := nx) (zs := zs) (c := (UNK + 9 + UNK * zs.length)) (va := v) (na := nx) (za := zs) (t4 := .ro) (t5 := .ro) (t6 := .ro) (t7 := .ro) rfl (by decide) (by simp) (by simp) (by simp) (by simp) (by omega) (by omega) (by kernel_rfl) (by kernel_rfl) (by kernel_rfl) (by kernel_rfl) (by kernel_rfl) (by kernel_rfl) (by kernel_rfl) (by kernel_rfl)) ⟨ren_at (v := .slice (some ⟨0, 0, none⟩) L.length cl) (by kernel_rfl) (VRen.slice (show 0 < 8 by decide) rfl hcl), ren_at (v := ptr 1 0) (by kernel_rfl) (VRen.ptr (show 1 < 8 by decide) rfl), ren_at (v := .int .i64 ((i : Nat) : Int)) (by kernel_rfl) (VRen.int _ _), ren_at (v := ptr 4 0) (by kernel_rfl) (VRen.ptr (show 4 < 8 by decide) rfl), ren_at (v := ptr 5 0) (by kernel_rfl) (VRen.ptr (show 5 < 8 by decide) rfl), ren_at (v := .int .i64 ((p : Nat) : Int)) (by kernel_rfl) (VRen.int _ _), ren_at (v := .int .i64 ((r : Nat) : Int)) (by kernel_rfl) (VRen.int _ _), ren_at (v := .bool false) (by kernel_rfl) (VRen.bool _), trivial⟩)⟩
                        ·
                          refine OpsP.stepAt hr3_21_23_30 (step_eqv (x := .tmp 115) (y := .tmp 117) (t := 37) (q := 37) (p := false) (by kernel_rfl) (by kernel_rfl) (by kernel_rfl) (by kernel_rfl) (eqv_sp q12)) ?_
                          refine OpsP.take 5 (by kernel_rfl) ?_
                          refine OpsP.boolK 124 hr3_21_31_36 (by kernel_rfl) (decide (y.ep ≤ x.ep)) (by kernel_rfl) q11 ?_
                          refine OpsP.rest (by kernel_rfl) ?_
                          exact ⟨rfl, (Weak.renW (σ := sigL [0, 1, 2, 3, 4, 5, 6, 7]) (m1 := mFE L v nx zs ((UNK + 9 + UNK * zs.length)) v nx zs) (l := [(0, .slice (some ⟨0, 0, none⟩) L.length cl), (3, ptr 1 0), (5, .int .i64 ((i : Nat) : Int)), (6, ptr 4 0), (8, ptr 5 0), (9, .int .i64 ((p : Nat) : Int)), (10, .int .i64 ((r : Nat) : Int)), (127, .bool false)]) (keepsF (l := [0, 1, 2, 3, 4, 5, 6, 7]) (L := L) (v := v) (nx := nx) (zs := zs) (c := (UNK + 9 + UNK * zs.length)) (va := v) (na := nx) (za := zs) (t4 := .ro) (t5 := .ro) (t6 := .ro) (t7 := .ro) rfl (by decide) (by simp) (by simp) (by simp) (by simp) (by omega) (by omega) (by kernel_rfl) (by kernel_rfl) (by kernel_rfl) (by kernel_rfl) (by kernel_rfl) (by kernel_rfl) (by kernel_rfl) (by kernel_rfl)) ⟨ren_at (v := .slice (some ⟨0, 0, none⟩) L.length cl) (by kernel_rfl) (VRen.slice (show 0 < 8 by decide) rfl hcl), ren_at (v := ptr 1 0) (by kernel_rfl) (VRen.ptr (show 1 < 8 by decide) rfl), ren_at (v := .int .i64 ((i : Nat) : Int)) (by kernel_rfl) (VRen.int _ _), ren_at (v := ptr 4 0) (by kernel_rfl) (VRen.ptr (show 4 < 8 by decide) rfl), ren_at (v := ptr 5 0) (by kernel_rfl) (VRen.ptr (show 5 < 8 by decide) rfl), ren_at (v := .int .i64 ((p : Nat) : Int)) (by kernel_rfl) (VRen.int _ _), ren_at (v := .int .i64 ((r : Nat) : Int)) (by kernel_rfl) (VRen.int _ _), ren_at (v := .bool false) (by kernel_rfl) (VRen.bool _), trivial⟩)⟩
                ·
                  refine OpsP.rest (by kernel_rfl) ?_
                  exact ⟨rfl, (Weak.renW (σ := sigL [0, 1, 2, 3, 4, 5, 6, 7]) (m1 := mFE L v nx zs ((UNK + 9 + UNK * zs.length)) v nx zs) (l := [(0, .slice (some ⟨0, 0, none⟩) L.length cl), (3, ptr 1 0), (5, .int .i64 ((i : Nat) : Int)), (6, ptr 4 0), (8, ptr 5 0), (9, .int .i64 ((p : Nat) : Int)), (10, .int .i64 ((r : Nat) : Int)), (127, .bool false)]) (keepsF (l := [0, 1, 2, 3, 4, 5, 6, 7]) (L := L) (v := v) (nx := nx) (zs := zs) (c := (UNK + 9 + UNK * zs.length)) (va := v) (na := nx) (za := zs) (t4 := .ro) (t5 := .ro) (t6 := .ro) (t7 := .ro) rfl (by decide) (by simp) (by simp) (by simp) (by simp) (by omega) (by omega) (by kernel_rfl) (by kernel_rfl) (by kernel_rfl) (by kernel_rfl) (by kernel_rfl) (by kernel_rfl) (by kernel_rfl) (by kernel_rfl)) ⟨ren_at (v := .slice (some ⟨0, 0, none⟩) L.length cl) (by kernel_rfl) (VRen.slice (show 0 < 8 by decide) rfl hcl), ren_at (v := ptr 1 0) (by kernel_rfl) (VRen.ptr (show 1 < 8 by decide) rfl), ren_at (v := .int .i64 ((i : Nat) : Int)) (by kernel_rfl) (VRen.int _ _), ren_at (v := ptr 4 0) (by kernel_rfl) (VRen.ptr (show 4 < 8 by decide) rfl), ren_at (v := ptr 5 0) (by kernel_rfl) (VRen.ptr (show 5 < 8 by decide) rfl), ren_at (v := .int .i64 ((p : Nat) : Int)) (by kernel_rfl) (VRen.int _ _), ren_at (v := .int .i64 ((r : Nat) : Int)) (by kernel_rfl) (VRen.int _ _), ren_at (v := .bool false) (by kernel_rfl) (VRen.bool _), trivial⟩)⟩
              ·
                refine HL.cond (t := false) (by kernel_rfl) rfl (fun h => by cases h) fun _ => ?_
                refine HL.skip ?_
                refine HL.reg (C := ctx) (call := callL lE) (fid := 3) (sndL (l := lE) (lE_ok _ _) (by kernel_rfl)) ?_
                refine OpsP.take 1 (by kernel_rfl) ?_
                refine OpsP.stepAt hr3_19_0_1 (step_add (t := 3) (w := 3) (x := .tmp 76) (y := .const (.int .i64 1)) (k := .i64) (a := ((r : Nat) : Int)) (b := 1) (c := ((r + 1 : Nat) : Int)) (by kernel_rfl) (by kernel_rfl) (by kernel_rfl) (by kernel_rfl) (wrap_i1 (by omega))) ?_
                refine OpsP.rest (by kernel_rfl) ?_
                exact ⟨zs.length - (r + 1), by omega, _, _, (Weak.renW (σ := sigL [0, 1, 2, 3, 4, 5, 6, 7]) (m1 := mFE L v nx zs ((UNK + 9 + UNK * zs.length)) v nx zs) (l := [(0, .slice (some ⟨0, 0, none⟩) L.length cl), (3, ptr 1 0), (5, .int .i64 ((i : Nat) : Int)), (6, ptr 4 0), (8, ptr 5 0), (9, .int .i64 ((p : Nat) : Int)), (10, .int .i64 ((r + 1 : Nat) : Int))]) (keepsF (l := [0, 1, 2, 3, 4, 5, 6, 7]) (L := L) (v := v) (nx := nx) (zs := zs) (c := (UNK + 9 + UNK * zs.length)) (va := v) (na := nx) (za := zs) (t4 := .ro) (t5 := .ro) (t6 := .ro) (t7 := .ro) rfl (by decide) (by simp) (by simp) (by simp) (by simp) (by omega) (by omega) (by kernel_rfl) (by kernel_rfl) (by kernel_rfl) (by kernel_rfl) (by kernel_rfl) (by kernel_rfl) (by kernel_rfl) (by kernel_rfl)) ⟨ren_at (v := .slice (some ⟨0, 0, none⟩) L.length cl) (by kernel_rfl) (VRen.slice (show 0 < 8 by decide) rfl hcl), ren_at (v := ptr 1 0) (by kernel_rfl) (VRen.ptr (show 1 < 8 by decide) rfl), ren_at (v := .int .i64 ((i : Nat) : Int)) (by kernel_rfl) (VRen.int _ _), ren_at (v := ptr 4 0) (by kernel_rfl) (VRen.ptr (show 4 < 8 by decide) rfl), ren_at (v := ptr 5 0) (by kernel_rfl) (VRen.ptr (show 5 < 8 by decide) rfl), ren_at (v := .int .i64 ((p : Nat) : Int)) (by kernel_rfl) (VRen.int _ _), ren_at (v := .int .i64 ((r + 1 : Nat) : Int)) (by kernel_rfl) (VRen.int _ _), trivial⟩), r + 1, rfl, by omega, rfl, rfl⟩
            ·
              refine OpsP.nil ?_
              refine HL.cond (t := false) (by kernel_rfl) rfl (fun h => by cases h) fun _ => ?_
              refine HL.exit ?_
              refine ⟨rfl, ?_⟩
              refine HL.reg (C := ctx) (call := callL lE) (fid := 3) (sndL (l := lE) (lE_ok _ _) (by kernel_rfl)) ?_
              refine OpsP.take 1 (by kernel_rfl) ?_
              refine OpsP.stepAt hr3_16_0_1 (step_add (t := 3) (w := 3) (x := .tmp 69) (y := .const (.int .i64 1)) (k := .i64) (a := ((p : Nat) : Int)) (b := 1) (c := ((p + 1 : Nat) : Int)) (by kernel_rfl) (by kernel_rfl) (by kernel_rfl) (by kernel_rfl) (wrap_i1 (by omega))) ?_
              refine OpsP.rest (by kernel_rfl) ?_
              exact ⟨zs.length - (p + 1), by omega, _, _, (Weak.renW (σ := sigL [0, 1, 2, 3, 4, 5, 6, 7]) (m1 := mFE L v nx zs ((UNK + 9 + UNK * zs.length)) v nx zs) (l := [(0, .slice (some ⟨0, 0, none⟩) L.length cl), (3, ptr 1 0), (5, .int .i64 ((i : Nat) : Int)), (6, ptr 4 0), (8, ptr 5 0), (9, .int .i64 ((p + 1 : Nat) : Int))]) (keepsF (l := [0, 1, 2, 3, 4, 5, 6, 7]) (L := L) (v := v) (nx := nx) (zs := zs) (c := (UNK + 9 + UNK * zs.length)) (va := v) (na := nx) (za := zs) (t4 := .ro) (t5 := .ro) (t6 := .ro) (t7 := .ro) rfl (by decide) (by simp) (by simp) (by simp) (by simp) (by omega) (by omega) (by kernel_rfl) (by kernel_rfl) (by kernel_rfl) (by kernel_rfl) (by kernel_rfl) (by kernel_rfl) (by kernel_rfl) (by kernel_rfl)) ⟨ren_at (v := .slice (some ⟨0, 0, none⟩) L.length cl) (by kernel_rfl) (VRen.slice (show 0 < 8 by decide) rfl hcl), ren_at (v := ptr 1 0) (by kernel_rfl) (VRen.ptr (show 1 < 8 by decide) rfl), ren_at (v := .int .i64 ((i : Nat) : Int)) (by kernel_rfl) (VRen.int _ _), ren_at (v := ptr 4 0) (by kernel_rfl) (VRen.ptr (show 4 < 8 by decide) rfl), ren_at (v := ptr 5 0) (by kernel_rfl) (VRen.ptr (show 5 < 8 by decide) rfl), ren_at (v := .int .i64 ((p + 1 : Nat) : Int)) (by kernel_rfl) (VRen.int _ _), trivial⟩), p + 1, rfl, by omega, rfl, rfl⟩
          ·
            refine OpsP.nil ?_
            refine HL.cond (t := false) (by kernel_rfl) rfl (fun h => by cases h) fun _ => ?_
            refine HL.exit ?_
            refine ⟨rfl, ?_⟩
            refine HL.reg (C := ctx) (call := callL lE) (fid := 3) (sndL (l := lE) (lE_ok _ _) (by kernel_rfl)) ?_
            refine OpsP.take 1 (by kernel_rfl) ?_
            refine OpsP.stepAt hr3_8_0_1 (step_add (t := 3) (w := 3) (x := .tmp 34) (y := .const (.int .i64 1)) (k := .i64) (a := ((i : Nat) : Int)) (b := 1) (c := ((i + 1 : Nat) : Int)) (by kernel_rfl) (by kernel_rfl) (by kernel_rfl) (by kernel_rfl) (wrap_i1 (by have := of_decide_eq_true q3; omega))) ?_
            refine OpsP.rest (by kernel_rfl) ?_
            exact ⟨L.length - (i + 1), by omega, _, _, (Weak.renW (σ := sigL [0, 1, 2, 3]) (m1 := mE L v nx zs (UNK + 9 + UNK * zs.length)) (l := [(0, .slice (some ⟨0, 0, none⟩) L.length cl), (3, ptr 1 0), (5, .int .i64 ((i + 1 : Nat) : Int))]) (keepsE (l := [0, 1, 2, 3]) (L := L) (v := v) (nx := nx) (zs := zs) (c := (UNK + 9 + UNK * zs.length)) (st := .ro) rfl (by decide) (by simp) (by omega) (by kernel_rfl) (by kernel_rfl) (by kernel_rfl) (by kernel_rfl)) ⟨ren_at (v := .slice (some ⟨0, 0, none⟩) L.length cl) (by kernel_rfl) (VRen.slice (show 0 < 4 by decide) rfl hcl), ren_at (v := ptr 1 0) (by kernel_rfl) (VRen.ptr (show 1 < 4 by decide) rfl), ren_at (v := .int .i64 ((i + 1 : Nat) : Int)) (by kernel_rfl) (VRen.int _ _), trivial⟩), i + 1, v, nx, zs, _, rfl, by omega, hI, by omega, by omega, .inl rfl, rfl, rfl⟩
        ·
          have hge2 := hI2.ge
          have hle2 := hI2.le
          refine OpsP.stepAt hr3_10_5_5 (step_call (g := 15) (f := .func 15) (args := #[.tmp 38, .tmp 42]) (ats := #[24, 34]) (l := [ptr 1 0, .agg ⟨k.cells⟩]) (by kernel_rfl) (by kernel_rfl) (by kernel_rfl) (by kernel_rfl) (callE15 (v := v) (nx := nx) (zs := zs) (c := c) (k := k) (r := (true, (v + 1), nx2, zs2)) hI hv hcap (by kernel_rfl) (by kernel_rfl) (by kernel_rfl) hA)) ?_
          refine OpsP.rest (by kernel_rfl) ?_
          refine HL.seq ?_
          refine HL.reg (C := ctx) (call := callL lE) (fid := 3) (sndL (l := lE) (lE_ok _ _) (by kernel_rfl)) ?_
          refine OpsP.take 1 (by kernel_rfl) ?_
          refine OpsP.stepAt hr3_11_0_1 (step_call (g := 14) (f := .func 14) (args := #[.tmp 44]) (ats := #[24]) (l := [ptr 1 0]) (by kernel_rfl) (by kernel_rfl) (by kernel_rfl) (by kernel_rfl) (callE14 (v := (v + 1)) (nx := nx2) (z := 7) (c := (UNK + 9 + UNK * zs2.length)) (zs := zs2) (h := .slice (some ⟨3, 0, none⟩) 4 HC4) (by kernel_rfl) (by kernel_rfl) (by omega) (by omega))) ?_
          refine OpsP.rest (by kernel_rfl) ?_
          refine HL.seq ?_
          refine HL.seq ?_
          refine HL.reg (C := ctx) (call := callL lE) (fid := 3) (sndL (l := lE) (lE_ok _ _) (by kernel_rfl)) ?_
          refine OpsP.take 5 (by kernel_rfl) ?_
          refine OpsP.stepAt hr3_12_0_5 (step_add (t := 3) (w := 3) (x := .tmp 50) (y := .const (.int .i64 1)) (k := .i64) (a := v) (b := 1) (c := (v + 1)) (by kernel_rfl) (by kernel_rfl) (by kernel_rfl) (by kernel_rfl) (wrap_p1 hv hv1)) ?_
          refine OpsP.boolK 52 hr3_12_6_6 (by kernel_rfl) (decide ((v + 1) = (v + 1))) (by kernel_rfl) (decide_eq_true rfl) ?_
          refine OpsP.rest (by kernel_rfl) ?_
          refine HL.cond (t := false) (by kernel_rfl) rfl (fun h => by cases h) fun _ => ?_
          refine HL.skip ?_
          refine HL.seq ?_
          refine HL.reg (C := ctx) (call := callL lE) (fid := 3) (sndL (l := lE) (lE_ok _ _) (by kernel_rfl)) ?_
          refine OpsP.rest (by kernel_rfl) ?_
          refine HL.blockLoopW (fun n s m => ∃ p : Nat, n = zs.length - p ∧ p ≤ zs.length ∧ s = mkS 129 [(0, .slice (some ⟨0, 0, none⟩) L.length cl), (3, ptr 1 0), (5, .int .i64 ((i : Nat) : Int)), (6, ptr 4 0), (8, ptr 5 0), (9, .int .i64 ((p : Nat) : Int))] ∧ m = mFE L ((v + 1)) nx2 zs2 (UNK + 9 + UNK * zs2.length) v nx zs) ?_ (n := zs.length) (Weak.renW (σ := sigL [0, 1, 7, 3, 5, 9, 4, 8]) (m1 := mFE L ((v + 1)) nx2 zs2 ((UNK + 9 + UNK * zs2.length)) v nx zs) (l := [(0, .slice (some ⟨0, 0, none⟩) L.length cl), (3, ptr 1 0), (5, .int .i64 ((i : Nat) : Int)), (6, ptr 4 0), (8, ptr 5 0), (9, .int .i64 ((0 : Nat) : Int))]) (keepsF (l := [0, 1, 7, 3, 5, 9, 4, 8]) (L := L) (v := (v + 1)) (nx := nx2) (zs := zs2) (c := (UNK + 9 + UNK * zs2.length)) (va := v) (na := nx) (za := zs) (t4 := .sole) (t5 := .sole) (t6 := .sole) (t7 := .sole) rfl (by decide) (by simp) (by simp) (by simp) (by simp) (by omega) (by omega) (by kernel_rfl) (by kernel_rfl) (by kernel_rfl) (by kernel_rfl) (by kernel_rfl) (by kernel_rfl) (by kernel_rfl) (by kernel_rfl)) ⟨ren_at (v := .slice (some ⟨0, 0, none⟩) L.length cl) (by kernel_rfl) (VRen.slice (show 0 < 8 by decide) rfl hcl), ren_at (v := ptr 1 0) (by kernel_rfl) (VRen.ptr (show 1 < 8 by decide) rfl), ren_at (v := .int .i64 ((i : Nat) : Int)) (by kernel_rfl) (VRen.int _ _), ren_at (v := ptr 5 0) (by kernel_rfl) (VRen.ptr (show 4 < 8 by decide) rfl), ren_at (v := ptr 9 0) (by kernel_rfl) (VRen.ptr (show 5 < 8 by decide) rfl), ren_at (v := .int .i64 ((0 : Nat) : Int)) (by kernel_rfl) (VRen.int _ _), trivial⟩) ⟨0, by omega, by omega, rfl, rfl⟩
          rintro n s m ⟨p, rfl, hpl, rfl, rfl⟩
          refine HL.seq ?_
          refine HL.seq ?_
          refine HL.reg (C := ctx) (call := callL lE) (fid := 3) (sndL (l := lE) (lE_ok _ _) (by kernel_rfl)) ?_
          refine OpsP.take 4 (by kernel_rfl) ?_
          refine OpsP.boolT 68 hr3_15_0_4 (by kernel_rfl) (decide (((p : Nat) : Int) < ((zs.length : Nat) : Int))) (by kernel_rfl) (fun q13 => ?_) fun q13 => ?_
          ·
            have hp : p < zs.length := by have := of_decide_eq_true q13; omega
            obtain ⟨x, hx⟩ : ∃ x, zs[p]? = some x := ⟨_, List.getElem?_eq_getElem hp⟩
            refine OpsP.nil ?_
            refine HL.cond (t := true) (by kernel_rfl) rfl (fun _ => ?_) fun h => by cases h
            refine HL.skip ?_
            refine HL.seq ?_
            refine HL.block ?_
            refine HL.seq ?_
            refine HL.reg (C := ctx) (call := callL lE) (fid := 3) (sndL (l := lE) (lE_ok _ _) (by kernel_rfl)) ?_
            refine OpsP.rest (by kernel_rfl) ?_
            refine HL.blockLoopW (fun n s m => ∃ r : Nat, n = zs2.length - r ∧ r ≤ zs2.length ∧ s = mkS 129 [(0, .slice (some ⟨0, 0, none⟩) L.length cl), (3, ptr 1 0), (5, .int .i64 ((i : Nat) : Int)), (6, ptr 4 0), (8, ptr 5 0), (9, .int .i64 ((p : Nat) : Int)), (10, .int .i64 ((r : Nat) : Int))] ∧ m = mFE L ((v + 1)) nx2 zs2 (UNK + 9 + UNK * zs2.length) v nx zs) ?_ (n := zs2.length) (Weak.renW (σ := sigL [0, 1, 2, 3, 4, 5, 6, 7]) (m1 := mFE L ((v + 1)) nx2 zs2 ((UNK + 9 + UNK * zs2.length)) v nx zs) (l := [(0, .slice (some ⟨0, 0, none⟩) L.length cl), (3, ptr 1 0), (5, .int .i64 ((i : Nat) : Int)), (6, ptr 4 0), (8, ptr 5 0), (9, .int .i64 ((p : Nat) : Int)), (10, .int .i64 ((0 : Nat) : Int))]) (keepsF (l := [0, 1, 2, 3, 4, 5, 6, 7]) (L := L) (v := (v + 1)) (nx := nx2) (zs := zs2) (c := (UNK + 9 + UNK * zs2.length)) (va := v) (na := nx) (za := zs) (t4 := .ro) (t5 := .ro) (t6 := .ro) (t7 := .ro) rfl (by decide) (by simp) (by simp) (by simp) (by simp) (by omega) (by omega) (by kernel_rfl) (by kernel_rfl) (by kernel_rfl) (by kernel_rfl) (by kernel_rfl) (by kernel_rfl) (by kernel_rfl) (by kernel_rfl)) ⟨ren_at (v := .slice (some ⟨0, 0, none⟩) L.length cl) (by kernel_rfl) (VRen.slice (show 0 < 8 by decide) rfl hcl), ren_at (v := ptr 1 0) (by kernel_rfl) (VRen.ptr (show 1 < 8 by decide) rfl), ren_at (v := .int .i64 ((i : Nat) : Int)) (by kernel_rfl) (VRen.int _ _), ren_at (v := ptr 4 0) (by kernel_rfl) (VRen.ptr (show 4 < 8 by decide) rfl), ren_at (v := ptr 5 0) (by kernel_rfl) (VRen.ptr (show 5 < 8 by decide) rfl), ren_at (v := .int .i64 ((p : Nat) : Int)) (by kernel_rfl) (VRen.int _ _), ren_at (v := .int .i64 ((0 : Nat) : Int)) (by kernel_rfl) (VRen.int _ _), trivial⟩) ⟨0, by omega, by omega, rfl, rfl⟩
            rintro n s m ⟨r, rfl, hrl, rfl, rfl⟩
            refine HL.seq ?_
            refine HL.seq ?_
            refine HL.reg (C := ctx) (call := callL lE) (fid := 3) (sndL (l := lE) (lE_ok _ _) (by kernel_rfl)) ?_
            refine OpsP.take 4 (by kernel_rfl) ?_
            refine OpsP.boolT 75 hr3_18_0_4 (by kernel_rfl) (decide (((r : Nat) : Int) < ((zs2.length : Nat) : Int))) (by kernel_rfl) (fun q14 => ?_) fun q14 => ?_
            ·
              have hr : r < zs2.length := by have := of_decide_eq_true q14; omega
              obtain ⟨y, hy⟩ : ∃ y, zs2[r]? = some y := ⟨_, List.getElem?_eq_getElem hr⟩
              have hbad : badE x y = false := good_bad (hg x (List.mem_of_getElem? hx) y (List.mem_of_getElem? hy))
              refine OpsP.nil ?_
              refine HL.cond (t := true) (by kernel_rfl) rfl (fun _ => ?_) fun h => by cases h
              refine HL.skip ?_
              refine HL.seq ?_
              refine HL.block ?_
              refine HL.seq ?_
              refine HL.run (C := ctx) (call := callL lE) (fid := 3) (sndL (l := lE) (lE_ok _ _) (by kernel_rfl)) (RunP.plan plan3_20 (by kernel_rfl) (by kernel_rfl) ?_)
              refine OpsP.take 3 (by kernel_rfl) ?_
              refine OpsP.stepAt hr3_20_0_1_2_3_4_5_6_7_8_9_10_11_0_3 (step_indexAddr (x := .tmp 79) (i := .tmp 80) (t := 28) (e := 39) (z := 9) (j := p) (n := zs.length) (c := ((UNK + 9 + UNK * zs.length))) (b := 6) (off := 0) (k := .i64) (iv := (((p : Nat) : Int))) (by kernel_rfl) (by kernel_rfl) (by kernel_rfl) (by kernel_rfl) (by kernel_rfl) (by kernel_rfl) rfl hp) ?_
              refine OpsP.stepAt hr3_20_0_1_2_3_4_5_6_7_8_9_10_11_4_4 (step_loadF (t := 39) (a := .tmp 81) (b := 6) (j := p) (f := 0) (n := 9) (ag := true) (st := .ro) (zs := zs) (rest := []) (z := x) (v := .agg ⟨(x : Z).cells⟩) (by kernel_rfl) (by kernel_rfl) (by kernel_rfl) (by kernel_rfl) (app_nil (by kernel_rfl)) rfl hx (by decide) (by kernel_rfl)) ?_
              refine OpsP.take 3 (by kernel_rfl) ?_
              refine OpsP.stepAt hr3_20_0_1_2_3_4_5_6_7_8_9_10_11_5_8 (step_indexAddr (x := .tmp 84) (i := .tmp 85) (t := 28) (e := 39) (z := 9) (j := r) (n := zs2.length) (c := ((UNK + 9 + UNK * zs2.length))) (b := 7) (off := 0) (k := .i64) (iv := (((r : Nat) : Int))) (by kernel_rfl) (by kernel_rfl) (by kernel_rfl) (by kernel_rfl) (by kernel_rfl) (by kernel_rfl) rfl hr) ?_
              refine OpsP.stepAt hr3_20_0_1_2_3_4_5_6_7_8_9_10_11_9_9 (step_loadF (t := 39) (a := .tmp 86) (b := 7) (j := r) (f := 0) (n := 9) (ag := true) (st := .ro) (zs := zs2) (rest := []) (z := y) (v := .agg ⟨(y : Z).cells⟩) (by kernel_rfl) (by kernel_rfl) (by kernel_rfl) (by kernel_rfl) (app_nil (by kernel_rfl)) rfl hy (by decide) (by kernel_rfl)) ?_
              refine OpsP.rest (by kernel_rfl) ?_
              refine ⟨(again_k (v := .slice (some ⟨6, 0, none⟩) zs.length ((UNK + 9 + UNK * zs.length))) (d := 79) (by kernel_rfl) (by kernel_rfl) (by kernel_rfl) (by kernel_rfl) (by kernel_rfl) (veq_slice (by kernel_rfl)) (again_k (v := .agg ⟨[.int .i64 (x.id), .string x.lo, .string x.hi, .int .i64 (x.own), .int .i64 (x.ep), .int .i64 (x.pend), .int .i64 (x.to), .string x.key, .int .i64 (x.new)]⟩) (d := 82) (by kernel_rfl) (by kernel_rfl) (prim_loadF (t := 39) (a := .tmp 81) (b := 6) (j := p) (f := 0) (n := 9) (ag := true) (st := .ro) (zs := zs) (rest := []) (z := x) (v := .agg ⟨(x : Z).cells⟩) (by kernel_rfl) (by kernel_rfl) (by kernel_rfl) (app_nil (by kernel_rfl)) rfl hx (by decide) (by kernel_rfl)) (by kernel_rfl) (by kernel_rfl) (veq_aggO (by kernel_rfl)) (again_k (v := .slice (some ⟨7, 0, none⟩) zs2.length ((UNK + 9 + UNK * zs2.length))) (d := 84) (by kernel_rfl) (by kernel_rfl) (by kernel_rfl) (by kernel_rfl) (by kernel_rfl) (veq_slice (by kernel_rfl)) (again_k (v := .agg ⟨[.int .i64 (y.id), .string y.lo, .string y.hi, .int .i64 (y.own), .int .i64 (y.ep), .int .i64 (y.pend), .int .i64 (y.to), .string y.key, .int .i64 (y.new)]⟩) (d := 87) (by kernel_rfl) (by kernel_rfl) (prim_loadF (t := 39) (a := .tmp 86) (b := 7) (j := r) (f := 0) (n := 9) (ag := true) (st := .ro) (zs := zs2) (rest := []) (z := y) (v := .agg ⟨(y : Z).cells⟩) (by kernel_rfl) (by kernel_rfl) (by kernel_rfl) (app_nil (by kernel_rfl)) rfl hy (by decide) (by kernel_rfl)) (by kernel_rfl) (by kernel_rfl) (veq_aggO (by kernel_rfl)) again_nil)))), ?_⟩
              refine OpsP.rest (by kernel_rfl) ?_
              refine ⟨(again_k (v := .slice (some ⟨7, 0, none⟩) zs2.length ((UNK + 9 + UNK * zs2.length))) (d := 84) (by kernel_rfl) (by kernel_rfl) (by kernel_rfl) (by kernel_rfl) (by kernel_rfl) (veq_slice (by kernel_rfl)) (again_k (v := .agg ⟨[.int .i64 (y.id), .string y.lo, .string y.hi, .int .i64 (y.own), .int .i64 (y.ep), .int .i64 (y.pend), .int .i64 (y.to), .string y.key, .int .i64 (y.new)]⟩) (d := 87) (by kernel_rfl) (by kernel_rfl) (prim_loadF (t := 39) (a := .tmp 86) (b := 7) (j := r) (f := 0) (n := 9) (ag := true) (st := .ro) (zs := zs2) (rest := []) (z := y) (v := .agg ⟨(y : Z).cells⟩) (by kernel_rfl) (by kernel_rfl) (by kernel_rfl) (app_nil (by kernel_rfl)) rfl hy (by decide) (by kernel_rfl)) (by kernel_rfl) (by kernel_rfl) (veq_aggO (by kernel_rfl)) again_nil)), ?_⟩
              refine OpsP.rest (by kernel_rfl) ?_
              refine ⟨again_nil, ?_⟩
              refine HL.seqW (s1 := mkS 129 [(0, .slice (some ⟨0, 0, none⟩) L.length cl), (3, ptr 1 0), (5, .int .i64 ((i : Nat) : Int)), (6, ptr 4 0), (8, ptr 5 0), (9, .int .i64 ((p : Nat) : Int)), (10, .int .i64 ((r : Nat) : Int)), (127, .bool false)]) (m1 := mFE L ((v + 1)) nx2 zs2 (UNK + 9 + UNK * zs2.length) v nx zs) ?_ ?_
              ·
                refine HL.reg (C := ctx) (call := callL lE) (fid := 3) (sndL (l := lE) (lE_ok _ _) (by kernel_rfl)) ?_
                refine OpsP.take 4 (by kernel_rfl) ?_
                refine OpsP.boolT 92 hr3_21_0_4 (by kernel_rfl) (decide (x.id = y.id)) (by kernel_rfl) (fun q15 => ?_) fun q15 => ?_
                ·
                  refine OpsP.take 5 (by kernel_rfl) ?_
                  refine OpsP.boolT 98 hr3_21_5_10 (by kernel_rfl) (decide (y.ep < x.ep)) (by kernel_rfl) (fun q16 => ?_) fun q16 => ?_
                  ·
                    refine OpsP.rest (by kernel_rfl) ?_
                    exact absurd (show badE x y = true from by unfold badE; simp only [q15, q16] <;> rfl) (by rw [hbad]; simp)
                  ·
                    refine OpsP.take 5 (by kernel_rfl) ?_
                    refine OpsP.boolN 104 hr3_21_11_16 (by kernel_rfl) (decide (y.own = x.own)) (by kernel_rfl) (fun q17 => ?_) fun q17 => ?_
                    ·
                      refine OpsP.take 13 (by kernel_rfl) ?_
                      refine bool_by (eqSp y x) (fun q18 => ?_) fun q18 => ?_
                      ·
                        refine OpsP.stepAt hr3_21_17_30 (step_eqv (x := .tmp 115) (y := .tmp 117) (t := 37) (q := 37) (p := false) (by kernel_rfl) (by kernel_rfl) (by kernel_rfl) (by kernel_rfl) (eqv_sp q18)) ?_
                        refine OpsP.rest (by kernel_rfl) ?_
                        exact ⟨rfl, (Weak.renW (σ := sigL [0, 1, 2, 3, 4, 5, 6, 7]) (m1 := mFE L ((v + 1)) nx2 zs2 ((UNK + 9 + UNK * zs2.length)) v nx zs) (l := [(0, .slice (some ⟨0, 0, none⟩) L.length cl), (3, ptr 1 0), (5, .int .i64 ((i : Nat) : Int)), (6, ptr 4 0), (8, ptr 5 0), (9, .int .i64 ((p : Nat) : Int)), (10, .int .i64 ((r : Nat) : Int)), (127, .bool false)]) (keepsF (l := [0, 1, 2, 3, 4, 5, 6, 7]) (L := L) (v := (v + 1)) (nx := nx2) (zs := zs2) (c := (UNK + 9 + UNK * zs2.length)) (va := v) (na := nx) (za := zs) (t4 := .ro) (t5 := .ro) (t6 := .ro) (t7 := .ro) rfl (by decide) (by simp) (by simp) (by simp) (by simp) (by omega) (by omega) (by kernel_rfl) (by kernel_rfl) (by kernel_rfl) (by kernel_rfl) (by kernel_rfl) (by kernel_rfl) (by kernel_rfl) (by kernel_rfl)) ⟨ren_at (v := .slice (some ⟨0, 0, none⟩) L.length cl) (by kernel_rfl) (VRen.slice (show 0 < 8 by decide) rfl hcl), ren_at (v := ptr 1 0) (by kernel_rfl) (VRen.ptr (show 1 < 8 by decide) rfl), ren_at (v := .int .i64 ((i : Nat) : Int)) (by kernel_rfl) (VRen.int _ _), ren_at (v := ptr 4 0) (by kernel_rfl) (VRen.ptr (show 4 < 8 by decide) rfl), ren_at (v := ptr 5 0) (by kernel_rfl) (VRen.ptr (show 5 < 8 by decide) rfl), ren_at (v := .int .i64 ((p : Nat) : Int)) (by kernel_rfl) (VRen.int _ _), ren_at (v := .int .i64 ((r : Nat) : Int)) (by kernel_rfl) (VRen.int _ _), ren_at (v := .bool false) (by kernel_rfl) (VRen.bool _), trivial⟩)⟩
                      ·
                        refine OpsP.stepAt hr3_21_17_30 (step_eqv (x := .tmp 115) (y := .tmp 117) (t := 37) (q := 37) (p := false) (by kernel_rfl) (by kernel_rfl) (by kernel_rfl) (by kernel_rfl) (eqv_sp q18)) ?_
                        refine OpsP.take 5 (by kernel_rfl) ?_
                        refine OpsP.boolT 124 hr3_21_31_36 (by kernel_rfl) (decide (y.ep ≤ x.ep)) (by kernel_rfl) (fun q19 => ?_) fun q19 => ?_
                        ·
                          refine OpsP.rest (by kernel_rfl) ?_
                          exact absurd (show badE x y = true from by unfold badE; simp only [q15, q16, q17, q18, q19] <;> rfl) (by rw [hbad]; simp)
                        ·
                          refine OpsP.rest (by kernel_rfl) ?_
                          exact ⟨rfl, (Weak.renW (σ := sigL [0, 1, 2, 3, 4, 5, 6, 7]) (m1 := mFE L ((v + 1)) nx2 zs2 ((UNK + 9 + UNK * zs2.length)) v nx zs) (l := [(0, .slice (some ⟨0, 0, none⟩) L.length cl), (3, ptr 1 0), (5, .int .i64 ((i : Nat) : Int)), (6, ptr 4 0), (8, ptr 5 0), (9, .int .i64 ((p : Nat) : Int)), (10, .int .i64 ((r : Nat) : Int)), (127, .bool false)]) (keepsF (l := [0, 1, 2, 3, 4, 5, 6, 7]) (L := L) (v := (v + 1)) (nx := nx2) (zs := zs2) (c := (UNK + 9 + UNK * zs2.length)) (va := v) (na := nx) (za := zs) (t4 := .ro) (t5 := .ro) (t6 := .ro) (t7 := .ro) rfl (by decide) (by simp) (by simp) (by simp) (by simp) (by omega) (by omega) (by kernel_rfl) (by kernel_rfl) (by kernel_rfl) (by kernel_rfl) (by kernel_rfl) (by kernel_rfl) (by kernel_rfl) (by kernel_rfl)) ⟨ren_at (v := .slice (some ⟨0, 0, none⟩) L.length cl) (by kernel_rfl) (VRen.slice (show 0 < 8 by decide) rfl hcl), ren_at (v := ptr 1 0) (by kernel_rfl) (VRen.ptr (show 1 < 8 by decide) rfl), ren_at (v := .int .i64 ((i : Nat) : Int)) (by kernel_rfl) (VRen.int _ _), ren_at (v := ptr 4 0) (by kernel_rfl) (VRen.ptr (show 4 < 8 by decide) rfl), ren_at (v := ptr 5 0) (by kernel_rfl) (VRen.ptr (show 5 < 8 by decide) rfl), ren_at (v := .int .i64 ((p : Nat) : Int)) (by kernel_rfl) (VRen.int _ _), ren_at (v := .int .i64 ((r : Nat) : Int)) (by kernel_rfl) (VRen.int _ _), ren_at (v := .bool false) (by kernel_rfl) (VRen.bool _), trivial⟩)⟩
                    ·
                      refine OpsP.take 5 (by kernel_rfl) ?_
                      refine OpsP.boolT 110 hr3_21_17_22 (by kernel_rfl) (decide (y.ep ≤ x.ep)) (by kernel_rfl) (fun q20 => ?_) fun q20 => ?_
                      ·
                        refine OpsP.rest (by kernel_rfl) ?_
                        exact absurd (show badE x y = true from by unfold badE; simp only [q15, q16, q17, q20] <;> rfl) (by rw [hbad]; simp)
                      ·
                        refine OpsP.take 7 (by kernel_rfl) ?_
                        refine bool_by (eqSp y x) (fun q21 => ?_) fun q21 => ?_
                        ·
                          refine OpsP.stepAt hr3_21_23_30 (step_eqv (x := .tmp 115) (y := .tmp 117) (t := 37) (q := 37) (p := false) (by kernel_rfl) (by kernel_rfl) (by kernel_rfl) (by kernel_rfl) (eqv_sp q21)) ?_
                          refine OpsP.rest (by kernel_rfl) ?_
                          exact ⟨rfl, (Weak.renW (σ := sigL [0, 1, 2, 3, 4, 5, 6, 7]) (m1 := mFE L ((v + 1)) nx2 zs2 ((UNK + 9 + UNK * zs2.length)) v nx zs) (l := [(0, .slice (some ⟨0, 0, none⟩) L.length cl), (3, ptr 1 0), (5, .int .i64 ((i : Nat) : Int)), (6, ptr 4 0), (8, ptr 5 0), (9, .int .i64 ((p : Nat) : Int)), (10, .int .i64 ((r : Nat) : Int)), (127, .bool false)]) (keepsF (l := [0, 1, 2, 3, 4, 5, 6, 7]) (L := L) (v := (v + 1)) (nx := nx2) (zs := zs2) (c := (UNK + 9 + UNK * zs2.length)) (va := v) (na := nx) (za := zs) (t4 := .ro) (t5 := .ro) (t6 := .ro) (t7 := .ro) rfl (by decide) (by simp) (by simp) (by simp) (by simp) (by omega) (by omega) (by kernel_rfl) (by kernel_rfl) (by kernel_rfl) (by kernel_rfl) (by kernel_rfl) (by kernel_rfl) (by kernel_rfl) (by kernel_rfl)) ⟨ren_at (v := .slice (some ⟨0, 0, none⟩) L.length cl) (by kernel_rfl) (VRen.slice (show 0 < 8 by decide) rfl hcl), ren_at (v := ptr 1 0) (by kernel_rfl) (VRen.ptr (show 1 < 8 by decide) rfl), ren_at (v := .int .i64 ((i : Nat) : Int)) (by kernel_rfl) (VRen.int _ _), ren_at (v := ptr 4 0) (by kernel_rfl) (VRen.ptr (show 4 < 8 by decide) rfl), ren_at (v := ptr 5 0) (by kernel_rfl) (VRen.ptr (show 5 < 8 by decide) rfl), ren_at (v := .int .i64 ((p : Nat) : Int)) (by kernel_rfl) (VRen.int _ _), ren_at (v := .int .i64 ((r : Nat) : Int)) (by kernel_rfl) (VRen.int _ _), ren_at (v := .bool false) (by kernel_rfl) (VRen.bool _), trivial⟩)⟩
                        ·
                          refine OpsP.stepAt hr3_21_23_30 (step_eqv (x := .tmp 115) (y := .tmp 117) (t := 37) (q := 37) (p := false) (by kernel_rfl) (by kernel_rfl) (by kernel_rfl) (by kernel_rfl) (eqv_sp q21)) ?_
                          refine OpsP.take 5 (by kernel_rfl) ?_
                          refine OpsP.boolK 124 hr3_21_31_36 (by kernel_rfl) (decide (y.ep ≤ x.ep)) (by kernel_rfl) q20 ?_
                          refine OpsP.rest (by kernel_rfl) ?_
                          exact ⟨rfl, (Weak.renW (σ := sigL [0, 1, 2, 3, 4, 5, 6, 7]) (m1 := mFE L ((v + 1)) nx2 zs2 ((UNK + 9 + UNK * zs2.length)) v nx zs) (l := [(0, .slice (some ⟨0, 0, none⟩) L.length cl), (3, ptr 1 0), (5, .int .i64 ((i : Nat) : Int)), (6, ptr 4 0), (8, ptr 5 0), (9, .int .i64 ((p : Nat) : Int)), (10, .int .i64 ((r : Nat) : Int)), (127, .bool false)]) (keepsF (l := [0, 1, 2, 3, 4, 5, 6, 7]) (L := L) (v := (v + 1)) (nx := nx2) (zs := zs2) (c := (UNK + 9 + UNK * zs2.length)) (va := v) (na := nx) (za := zs) (t4 := .ro) (t5 := .ro) (t6 := .ro) (t7 := .ro) rfl (by decide) (by simp) (by simp) (by simp) (by simp) (by omega) (by omega) (by kernel_rfl) (by kernel_rfl) (by kernel_rfl) (by kernel_rfl) (by kernel_rfl) (by kernel_rfl) (by kernel_rfl) (by kernel_rfl)) ⟨ren_at (v := .slice (some ⟨0, 0, none⟩) L.length cl) (by kernel_rfl) (VRen.slice (show 0 < 8 by decide) rfl hcl), ren_at (v := ptr 1 0) (by kernel_rfl) (VRen.ptr (show 1 < 8 by decide) rfl), ren_at (v := .int .i64 ((i : Nat) : Int)) (by kernel_rfl) (VRen.int _ _), ren_at (v := ptr 4 0) (by kernel_rfl) (VRen.ptr (show 4 < 8 by decide) rfl), ren_at (v := ptr 5 0) (by kernel_rfl) (VRen.ptr (show 5 < 8 by decide) rfl), ren_at (v := .int .i64 ((p : Nat) : Int)) (by kernel_rfl) (VRen.int _ _), ren_at (v := .int .i64 ((r : Nat) : Int)) (by kernel_rfl) (VRen.int _ _), ren_at (v := .bool false) (by kernel_rfl) (VRen.bool _), trivial⟩)⟩
                ·
                  refine OpsP.rest (by kernel_rfl) ?_
                  exact ⟨rfl, (Weak.renW (σ := sigL [0, 1, 2, 3, 4, 5, 6, 7]) (m1 := mFE L ((v + 1)) nx2 zs2 ((UNK + 9 + UNK * zs2.length)) v nx zs) (l := [(0, .slice (some ⟨0, 0, none⟩) L.length cl), (3, ptr 1 0), (5, .int .i64 ((i : Nat) : Int)), (6, ptr 4 0), (8, ptr 5 0), (9, .int .i64 ((p : Nat) : Int)), (10, .int .i64 ((r : Nat) : Int)), (127, .bool false)]) (keepsF (l := [0, 1, 2, 3, 4, 5, 6, 7]) (L := L) (v := (v + 1)) (nx := nx2) (zs := zs2) (c := (UNK + 9 + UNK * zs2.length)) (va := v) (na := nx) (za := zs) (t4 := .ro) (t5 := .ro) (t6 := .ro) (t7 := .ro) rfl (by decide) (by simp) (by simp) (by simp) (by simp) (by omega) (by omega) (by kernel_rfl) (by kernel_rfl) (by kernel_rfl) (by kernel_rfl) (by kernel_rfl) (by kernel_rfl) (by kernel_rfl) (by kernel_rfl)) ⟨ren_at (v := .slice (some ⟨0, 0, none⟩) L.length cl) (by kernel_rfl) (VRen.slice (show 0 < 8 by decide) rfl hcl), ren_at (v := ptr 1 0) (by kernel_rfl) (VRen.ptr (show 1 < 8 by decide) rfl), ren_at (v := .int .i64 ((i : Nat) : Int)) (by kernel_rfl) (VRen.int _ _), ren_at (v := ptr 4 0) (by kernel_rfl) (VRen.ptr (show 4 < 8 by decide) rfl), ren_at (v := ptr 5 0) (by kernel_rfl) (VRen.ptr (show 5 < 8 by decide) rfl), ren_at (v := .int .i64 ((p : Nat) : Int)) (by kernel_rfl) (VRen.int _ _), ren_at (v := .int .i64 ((r : Nat) : Int)) (by kernel_rfl) (VRen.int _ _), ren_at (v := .bool false) (by kernel_rfl) (VRen.bool _), trivial⟩)⟩
              ·
                refine HL.cond (t := false) (by kernel_rfl) rfl (fun h => by cases h) fun _ => ?_
                refine HL.skip ?_
                refine HL.reg (C := ctx) (call := callL lE) (fid := 3) (sndL (l := lE) (lE_ok _ _) (by kernel_rfl)) ?_
                refine OpsP.take 1 (by kernel_rfl) ?_
                refine OpsP.stepAt hr3_19_0_1 (step_add (t := 3) (w := 3) (x := .tmp 76) (y := .const (.int .i64 1)) (k := .i64) (a := ((r : Nat) : Int)) (b := 1) (c := ((r + 1 : Nat) : Int)) (by kernel_rfl) (by kernel_rfl) (by kernel_rfl) (by kernel_rfl) (wrap_i1 (by omega))) ?_
                refine OpsP.rest (by kernel_rfl) ?_
                exact ⟨zs2.length - (r + 1), by omega, _, _, (Weak.renW (σ := sigL [0, 1, 2, 3, 4, 5, 6, 7]) (m1 := mFE L ((v + 1)) nx2 zs2 ((UNK + 9 + UNK * zs2.length)) v nx zs) (l := [(0, .slice (some ⟨0, 0, none⟩) L.length cl), (3, ptr 1 0), (5, .int .i64 ((i : Nat) : Int)), (6, ptr 4 0), (8, ptr 5 0), (9, .int .i64 ((p : Nat) : Int)), (10, .int .i64 ((r + 1 : Nat) : Int))]) (keepsF (l := [0, 1, 2, 3, 4, 5, 6, 7]) (L := L) (v := (v + 1)) (nx := nx2) (zs := zs2) (c := (UNK + 9 + UNK * zs2.length)) (va := v) (na := nx) (za := zs) (t4 := .ro) (t5 := .ro) (t6 := .ro) (t7 := .ro) rfl (by decide) (by simp) (by simp) (by simp) (by simp) (by omega) (by omega) (by kernel_rfl) (by kernel_rfl) (by kernel_rfl) (by kernel_rfl) (by kernel_rfl) (by kernel_rfl) (by kernel_rfl) (by kernel_rfl)) ⟨ren_at (v := .slice (some ⟨0, 0, none⟩) L.length cl) (by kernel_rfl) (VRen.slice (show 0 < 8 by decide) rfl hcl), ren_at (v := ptr 1 0) (by kernel_rfl) (VRen.ptr (show 1 < 8 by decide) rfl), ren_at (v := .int .i64 ((i : Nat) : Int)) (by kernel_rfl) (VRen.int _ _), ren_at (v := ptr 4 0) (by kernel_rfl) (VRen.ptr (show 4 < 8 by decide) rfl), ren_at (v := ptr 5 0) (by kernel_rfl) (VRen.ptr (show 5 < 8 by decide) rfl), ren_at (v := .int .i64 ((p : Nat) : Int)) (by kernel_rfl) (VRen.int _ _), ren_at (v := .int .i64 ((r + 1 : Nat) : Int)) (by kernel_rfl) (VRen.int _ _), trivial⟩), r + 1, rfl, by omega, rfl, rfl⟩
            ·
              refine OpsP.nil ?_
              refine HL.cond (t := false) (by kernel_rfl) rfl (fun h => by cases h) fun _ => ?_
              refine HL.exit ?_
              refine ⟨rfl, ?_⟩
              refine HL.reg (C := ctx) (call := callL lE) (fid := 3) (sndL (l := lE) (lE_ok _ _) (by kernel_rfl)) ?_
              refine OpsP.take 1 (by kernel_rfl) ?_
              refine OpsP.stepAt hr3_16_0_1 (step_add (t := 3) (w := 3) (x := .tmp 69) (y := .const (.int .i64 1)) (k := .i64) (a := ((p : Nat) : Int)) (b := 1) (c := ((p + 1 : Nat) : Int)) (by kernel_rfl) (by kernel_rfl) (by kernel_rfl) (by kernel_rfl) (wrap_i1 (by omega))) ?_
              refine OpsP.rest (by kernel_rfl) ?_
              exact ⟨zs.length - (p + 1), by omega, _, _, (Weak.renW (σ := sigL [0, 1, 2, 3, 4, 5, 6, 7]) (m1 := mFE L ((v + 1)) nx2 zs2 ((UNK + 9 + UNK * zs2.length)) v nx zs) (l := [(0, .slice (some ⟨0, 0, none⟩) L.length cl), (3, ptr 1 0), (5, .int .i64 ((i : Nat) : Int)), (6, ptr 4 0), (8, ptr 5 0), (9, .int .i64 ((p + 1 : Nat) : Int))]) (keepsF (l := [0, 1, 2, 3, 4, 5, 6, 7]) (L := L) (v := (v + 1)) (nx := nx2) (zs := zs2) (c := (UNK + 9 + UNK * zs2.length)) (va := v) (na := nx) (za := zs) (t4 := .ro) (t5 := .ro) (t6 := .ro) (t7 := .ro) rfl (by decide) (by simp) (by simp) (by simp) (by simp) (by omega) (by omega) (by kernel_rfl) (by kernel_rfl) (by kernel_rfl) (by kernel_rfl) (by kernel_rfl) (by kernel_rfl) (by kernel_rfl) (by kernel_rfl)) ⟨ren_at (v := .slice (some ⟨0, 0, none⟩) L.length cl) (by kernel_rfl) (VRen.slice (show 0 < 8 by decide) rfl hcl), ren_at (v := ptr 1 0) (by kernel_rfl) (VRen.ptr (show 1 < 8 by decide) rfl), ren_at (v := .int .i64 ((i : Nat) : Int)) (by kernel_rfl) (VRen.int _ _), ren_at (v := ptr 4 0) (by kernel_rfl) (VRen.ptr (show 4 < 8 by decide) rfl), ren_at (v := ptr 5 0) (by kernel_rfl) (VRen.ptr (show 5 < 8 by decide) rfl), ren_at (v := .int .i64 ((p + 1 : Nat) : Int)) (by kernel_rfl) (VRen.int _ _), trivial⟩), p + 1, rfl, by omega, rfl, rfl⟩
          ·
            refine OpsP.nil ?_
            refine HL.cond (t := false) (by kernel_rfl) rfl (fun h => by cases h) fun _ => ?_
            refine HL.exit ?_
            refine ⟨rfl, ?_⟩
            refine HL.reg (C := ctx) (call := callL lE) (fid := 3) (sndL (l := lE) (lE_ok _ _) (by kernel_rfl)) ?_
            refine OpsP.take 1 (by kernel_rfl) ?_
            refine OpsP.stepAt hr3_8_0_1 (step_add (t := 3) (w := 3) (x := .tmp 34) (y := .const (.int .i64 1)) (k := .i64) (a := ((i : Nat) : Int)) (b := 1) (c := ((i + 1 : Nat) : Int)) (by kernel_rfl) (by kernel_rfl) (by kernel_rfl) (by kernel_rfl) (wrap_i1 (by have := of_decide_eq_true q3; omega))) ?_
            refine OpsP.rest (by kernel_rfl) ?_
            exact ⟨L.length - (i + 1), by omega, _, _, (Weak.renW (σ := sigL [0, 1, 2, 3]) (m1 := mE L ((v + 1)) nx2 zs2 (UNK + 9 + UNK * zs2.length)) (l := [(0, .slice (some ⟨0, 0, none⟩) L.length cl), (3, ptr 1 0), (5, .int .i64 ((i + 1 : Nat) : Int))]) (keepsE (l := [0, 1, 2, 3]) (L := L) (v := (v + 1)) (nx := nx2) (zs := zs2) (c := (UNK + 9 + UNK * zs2.length)) (st := .ro) rfl (by decide) (by simp) (by omega) (by kernel_rfl) (by kernel_rfl) (by kernel_rfl) (by kernel_rfl)) ⟨ren_at (v := .slice (some ⟨0, 0, none⟩) L.length cl) (by kernel_rfl) (VRen.slice (show 0 < 4 by decide) rfl hcl), ren_at (v := ptr 1 0) (by kernel_rfl) (VRen.ptr (show 1 < 4 by decide) rfl), ren_at (v := .int .i64 ((i + 1 : Nat) : Int)) (by kernel_rfl) (VRen.int _ _), trivial⟩), i + 1, (v + 1), nx2, zs2, _, rfl, by omega, hI2, by omega, by omega, .inl rfl, rfl, rfl⟩
      ·
        refine OpsP.rest (by kernel_rfl) ?_
        refine HL.cond (t := false) (by kernel_rfl) rfl (fun h => by cases h) fun _ => ?_
        refine HL.exit ?_
        refine ⟨rfl, ?_⟩
        refine HL.seq ?_
        refine HL.reg (C := ctx) (call := callL lE) (fid := 3) (sndL (l := lE) (lE_ok _ _) (by kernel_rfl)) ?_
        refine OpsP.stepAt hr3_23_0_0 (step_call (g := 17) (f := .func 17) (args := #[]) (ats := #[]) (l := []) (by kernel_rfl) (by kernel_rfl) (by kernel_rfl) (by kernel_rfl) callE17) ?_
        refine OpsP.rest (by kernel_rfl) ?_
        refine HL.ret ?_
        exact Ends.ret1 (C := ctx) (R := fun u _ => u = .bool true) ret3 (v := .bool true) (by kernel_rfl) rfl
    ·
      refine OpsP.rest (by kernel_rfl) ?_
      refine HL.cond (t := false) (by kernel_rfl) rfl (fun h => by cases h) fun _ => ?_
      refine HL.exit ?_
      refine ⟨rfl, ?_⟩
      refine HL.seq ?_
      refine HL.reg (C := ctx) (call := callL lE) (fid := 3) (sndL (l := lE) (lE_ok _ _) (by kernel_rfl)) ?_
      refine OpsP.stepAt hr3_23_0_0 (step_call (g := 17) (f := .func 17) (args := #[]) (ats := #[]) (l := []) (by kernel_rfl) (by kernel_rfl) (by kernel_rfl) (by kernel_rfl) callE17) ?_
      refine OpsP.rest (by kernel_rfl) ?_
      refine HL.ret ?_
      exact Ends.ret1 (C := ctx) (R := fun u _ => u = .bool true) ret3 (v := .bool true) (by kernel_rfl) rfl

end
end Go.Ev.Dir
