/- What slices.Insert of one zone does, at the evaluator; no condition. -/
import Derived.Test.YtcjmogljihkfnaaDirPa
import Derived.Test.YtcjmogljihkfnaaEvD
set_option linter.unusedVariables false
set_option linter.unusedSimpArgs false
namespace Go.Ev.Dir
open Go.Ev Go.Proofs
set_option linter.unusedSectionVars false

noncomputable def info39 : TypeInfo := (ctx.info 39).getD default
theorem info39_eq : ctx.info 39 = some info39 := by kernel_rfl
theorem info39_size : info39.size = 9 := by kernel_rfl
theorem under28 : ctx.under 28 = some (.slice 39) := by kernel_rfl
theorem elem28 : elemSz ctx 28 = some 9 := by kernel_rfl
theorem srcOk28 : srcOk ctx 28 = true := by kernel_rfl
theorem srcOk3 : srcOk ctx 3 = false := by kernel_rfl
theorem elemOf28 : sliceElem ctx 28 = some 39 := by kernel_rfl
theorem under3' : ctx.under 3 = some (.int .i64) := by kernel_rfl
def z0 : Z := ⟨0, nilS, nilS, 0, 0, 0, 0, nilS, 0⟩
noncomputable def zero39 : Value := info39.zero.getD (.bool false)
theorem zero39_eq : info39.zero = some zero39 := by kernel_rfl
theorem zero39_cells : Val.cells zero39 = z0.cells := by kernel_rfl

theorem cells_all (b : Z) : b.cells.all isCell = true := rfl
theorem flat_all : ∀ zs : List Z, (flat zs).all isCell = true
  | [] => rfl
  | z :: r => by simp only [flat, List.all_append, cells_all, flat_all r, Bool.and_self]

theorem rep_z0 : ∀ k, rep k z0.cells = flat (List.replicate k z0)
  | 0 => rfl
  | k + 1 => by
    have : rep (k + 1) z0.cells = z0.cells ++ rep k z0.cells := by simp [rep, List.replicate_succ]
    rw [this, rep_z0 k]
    rfl

theorem splice_flat (a : List Z) (r new : List Value) : splice (flat a ++ r) (0 + a.length * 9) new = flat a ++ new ++ r.drop new.length := by
  unfold splice
  have hl := flat_length a
  rw [List.take_append_of_le_length (by omega), List.take_of_length_le (by omega)]
  congr 1
  rw [List.drop_append, List.drop_eq_nil_of_le (by omega), List.nil_append]
  congr 1
  omega

theorem take_flat {zs : List Z} {sp : List Value} {i : Nat} (h : i ≤ zs.length) : (flat zs ++ sp).take (i * 9) = flat (zs.take i) := by
  have := flat_length zs
  rw [List.take_append_of_le_length (by omega), show i * 9 = 9 * i from by omega, flat_take]
theorem drop_flat {zs : List Z} {sp : List Value} {i k : Nat} (h : i + k = zs.length) : ((flat zs ++ sp).drop (0 + i * 9)).take (k * 9) = flat (zs.drop i) := by
  have := flat_length zs
  have h2 := flat_length (zs.drop i)
  rw [List.drop_append_of_le_length (by omega), show 0 + i * 9 = 9 * i from by omega, flat_drop, List.take_append_of_le_length (by rw [h2, List.length_drop]; omega), List.take_of_length_le (by rw [h2, List.length_drop]; omega)]

/-- a new row: the zone, and behind it those that stood from i on -/
theorem rows_new {zs : List Z} {b : Z} {i k : Nat} (h : i < zs.length) (hk : k = zs.length + 1 - i) :
    splice (splice (flat (zs.take i) ++ flat (List.replicate k z0)) (0 + i * 9) (flat [b])) (0 + (i + 1) * 9) (flat (zs.drop i)) = flat (zs.take i ++ b :: zs.drop i) := by
  have l1 : (zs.take i).length = i := by simp; omega
  have e1 := splice_flat (zs.take i) (flat (List.replicate k z0)) (flat [b])
  rw [l1] at e1
  rw [e1, ← flat_append]
  have l2 : (zs.take i ++ [b]).length = i + 1 := by simp; omega
  have e2 := splice_flat (zs.take i ++ [b]) ((flat (List.replicate k z0)).drop (flat [b]).length) (flat (zs.drop i))
  rw [l2] at e2
  have e3 : ((flat (List.replicate k z0)).drop (flat [b]).length).drop (flat (zs.drop i)).length = [] := by
    rw [List.drop_drop]
    apply List.drop_eq_nil_of_le
    simp only [flat_length, List.length_replicate, List.length_drop, List.length_cons, List.length_nil]
    omega
  rw [e2, e3, List.append_nil, ← flat_append]
  simp

/-- in place -/
theorem rows_room {zs : List Z} {b : Z} {sp : List Value} {i : Nat} (h : i < zs.length) :
    splice (splice (flat zs ++ sp) (0 + (i + 1) * 9) (flat (zs.drop i))) (0 + i * 9) (flat [b]) = flat (zs.take i ++ b :: zs.drop i) ++ sp.drop 9 := by
  have l1 : (zs.take (i + 1)).length = i + 1 := by simp; omega
  have e0 : flat zs ++ sp = flat (zs.take (i + 1)) ++ (flat (zs.drop (i + 1)) ++ sp) := by rw [← List.append_assoc, ← flat_append, List.take_append_drop]
  have e1 := splice_flat (zs.take (i + 1)) (flat (zs.drop (i + 1)) ++ sp) (flat (zs.drop i))
  rw [l1] at e1
  have hd : (flat (zs.drop (i + 1)) ++ sp).drop (flat (zs.drop i)).length = sp.drop 9 := by
    rw [List.drop_append, List.drop_eq_nil_of_le (by simp only [flat_length, List.length_drop]; omega), List.nil_append]
    congr 1
    simp only [flat_length, List.length_drop]
    omega
  rw [e0, e1, hd]
  obtain ⟨z, hz⟩ : ∃ z, zs[i]? = some z := ⟨zs[i], List.getElem?_eq_getElem h⟩
  rw [take_at hz, flat_append]
  have l2 : (zs.take i).length = i := by simp; omega
  have e2 := splice_flat (zs.take i) (flat [z] ++ flat (zs.drop i) ++ sp.drop 9) (flat [b])
  rw [l2] at e2
  have e3 : flat (zs.take i) ++ flat [z] ++ flat (zs.drop i) ++ sp.drop 9 = flat (zs.take i) ++ (flat [z] ++ flat (zs.drop i) ++ sp.drop 9) := by simp [List.append_assoc]
  rw [e3, e2, List.append_assoc (flat [z]), List.drop_append, List.drop_eq_nil_of_le (by simp [flat_length]), List.nil_append]
  rw [show (flat [b]).length - (flat [z]).length = 0 from by simp [flat_length], List.drop_zero]
  have e4 : flat (zs.take i ++ b :: zs.drop i) = flat (zs.take i) ++ (flat [b] ++ flat (zs.drop i)) := by
    rw [← flat_append, ← flat_append]; rfl
  rw [e4]
  simp [List.append_assoc]

section
variable [Atoms] {m : Mem}

theorem src_one {v : Nat} {b : Z} (hv : m.get v = some (.cells b.cells 9 .sole)) : appendSrc ctx 9 28 28 (.slice (some ⟨v, 0, none⟩) 1 1) m = some (1, b.cells) := by
  unfold appendSrc
  rw [srcOk28]
  simp only [cond_true, lenV, Option.bind_some, srcCells, show Nat.beq 1 0 = false from rfl, cond_false]
  rw [loadN_get hv rfl (by rw [cells_length]; omega)]
  rfl

/-- there is room behind them -/
theorem append_room {z v n c : Nat} {vs : List Value} {b : Z} (hz : m.get z = some (.cells vs 9 .sole)) (hv : m.get v = some (.cells b.cells 9 .sole)) (hlen : n * 9 + 9 ≤ vs.length) (hc : c < UNK) (hr : n + 1 ≤ c) (hbig : n + 1 ≤ BIG) :
    aappend ctx 28 28 (.slice (some ⟨z, 0, none⟩) n c) (.slice (some ⟨v, 0, none⟩) 1 1) m = some (.slice (some ⟨z, 0, none⟩) (n + 1) c, m.put z (.cells (splice vs (0 + n * 9) b.cells) 9 .sole)) := by
  unfold aappend
  rw [elem28]
  simp only [Option.bind_some, src_one hv, cells_all, cond_true, hz]
  rw [show Nat.ble (n + 1) BIG = true from Nat.ble_eq_true_of_le hbig, show Nat.ble (0 + n * 9) vs.length = true from Nat.ble_eq_true_of_le (by omega)]
  simp only [show m.alive .sole = true from rfl, Nat.beq_refl, Bool.and_self, cond_true, appendTo, ble_false hc, cond_false]
  rw [show Nat.ble (n + 1) c = true from Nat.ble_eq_true_of_le hr, storeN_sole hz (by rw [cells_length]; omega) (cells_all b)]
  rfl

/-- there is none: a new row -/
theorem append_grow {z n c k : Nat} {vs new : List Value} {xt : TypeId} {x : Value} (hsrc : appendSrc ctx 9 28 xt x m = some (k, new)) (hall : new.all isCell = true) (hz : m.get z = some (.cells vs 9 .sole)) (hlen : n * 9 ≤ vs.length) (hc : c < UNK) (hr : c < n + k) (hbig : n + k ≤ BIG) :
    aappend ctx 28 xt (.slice (some ⟨z, 0, none⟩) n c) x m = some (.slice (some ⟨m.next, 0, none⟩) (n + k) (UNK + 9 + UNK * (n + k)), m.new (.cells (vs.take (n * 9) ++ new) 9 .sole)) := by
  unfold aappend
  rw [elem28]
  simp only [Option.bind_some, hsrc, hall, cond_true, hz]
  rw [show Nat.ble (n + k) BIG = true from Nat.ble_eq_true_of_le hbig, show Nat.ble (0 + n * 9) vs.length = true from Nat.ble_eq_true_of_le (by omega)]
  simp only [show m.alive .sole = true from rfl, Nat.beq_refl, Bool.and_self, cond_true, appendTo, ble_false hc, cond_false]
  rw [ble_false hr]
  simp only [cond_false, grown, List.drop_zero]

theorem src_made {k : Nat} (h1 : 1 ≤ k) (h2 : k ≤ BIG) : appendSrc ctx 9 28 3 (.int .i64 k) m = some (k, flat (List.replicate k z0)) := by
  unfold appendSrc
  rw [srcOk3]
  have ha : asN (.int .i64 (k : Int)) = some k := by simp [asN]
  simp only [cond_false, madeSrc, under3', ha, Option.bind_some]
  rw [show Nat.ble 1 k = true from Nat.ble_eq_true_of_le h1, show Nat.ble k BIG = true from Nat.ble_eq_true_of_le h2]
  simp only [Bool.and_self, cond_true, elemOf28, info39_eq, zero39_eq, Option.bind_some, zero39_cells, rep_z0]

/-- zones are copied within memory -/
theorem copy_zones {d s od os dn sn dc sc k : Nat} {vs ws : List Value} {l : List Z} (hk : k = l.length) (h0 : 0 < k) (hmin : min sn dn = k) (hd : m.get d = some (.cells vs 9 .sole)) (hs : m.get s = some (.cells ws 9 .sole)) (hsl : os + k * 9 ≤ ws.length) (hl : (ws.drop os).take (k * 9) = flat l) (hdl : od + k * 9 ≤ vs.length) :
    acopy ctx 28 (.slice (some ⟨d, od, none⟩) dn dc) (.slice (some ⟨s, os, none⟩) sn sc) m = some (.int .i64 k, m.put d (.cells (splice vs od (flat l)) 9 .sole)) := by
  unfold acopy
  rw [elem28]
  have hb : Nat.beq k 0 = false := by
    cases hq : Nat.beq k 0 with
    | false => rfl
    | true => have := Nat.eq_of_beq_eq_true hq; omega
  simp only [Option.bind_some, lenV, hmin, hb, cond_false, copyCells, srcCells]
  rw [loadN_get hs rfl hsl, hl]
  simp only [Option.bind_some]
  rw [storeN_sole hd (by rw [flat_length]; omega) (flat_all l)]
  rfl

theorem slice_head {b off n c h : Nat} {hi : Option Value} (hc : c < UNK) (hh : optN n hi = some h) (h2 : h ≤ c) : sliceV ctx 28 (.slice (some ⟨b, off, none⟩) n c) none hi none = some (.slice (some ⟨b, off, none⟩) h c) := by
  rw [sliceV_known under28 info39_eq hc (lo := none) rfl hh (Nat.zero_le _) h2]
  cases Nat.beq c 0 <;> simp
theorem slice_tail {b off n c l : Nat} {lo : Option Value} (hc : c < UNK) (hl : optN 0 lo = some l) (h1 : l ≤ n) (h2 : n ≤ c) (h3 : l < c) : sliceV ctx 28 (.slice (some ⟨b, off, none⟩) n c) lo none none = some (.slice (some ⟨b, off + l * 9, none⟩) (n - l) (c - l)) := by
  rw [sliceV_known under28 info39_eq hc hl (hi := none) rfl h1 h2, info39_size]
  have : Nat.beq c l = false := by
    cases hq : Nat.beq c l with
    | false => rfl
    | true => have := Nat.eq_of_beq_eq_true hq; omega
  rw [this]
  rfl
theorem slice_new {b n l : Nat} {lo : Option Value} (hl : optN 0 lo = some l) (h : l < n) : ∃ c', sliceV ctx 28 (.slice (some ⟨b, 0, none⟩) n (UNK + 9 + UNK * n)) lo none none = some (.slice (some ⟨b, 0 + l * 9, none⟩) (n - l) c') := by
  obtain ⟨c', e⟩ := sliceV_unk (C := ctx) (t := 28) (b := b) (off := 0) (n := n) (lo := lo) (hi := none) under28 info39_eq (unk_le_grown 9 n) (by rw [szOf_grown (by decide), info39_size]) (by rw [info39_size]; omega) hl rfl (Nat.le_of_lt h) (Nat.le_refl n) h
  rw [info39_size] at e
  exact ⟨c', e⟩

theorem step_call {call : CallF} {ops : Array Oper} {s : Slots} {o : Oper} {f : Operand} {args : Array Operand} {ats : Array TypeId} {g : FuncId} {l : List Value} {v : Value} {m' : Mem} (hw : wanted ops s o = some true) (ho : o.op = .call { callee := .value f, args := args, argTypes := ats })
    (hf : s.eval f = .func (.func g) ⟨[]⟩ ⟨[]⟩) (hl : args.toList.map s.eval = l) (hc : call g l m = some (v, m')) : stepOp ctx call ops o s m = some (s.put o.dst v, m') := by
  obtain ⟨dst, op, type, pos, after, guard⟩ := o
  simp only at ho
  subst ho
  unfold stepOp
  simp only [hw, Option.bind_some, cond_true, oper, hf, List.nil_append, List.append_nil, hl, hc]

end
end Go.Ev.Dir

namespace Go.Ev.Dir
open Go.Ev Go.Proofs
set_option linter.unusedSectionVars false

noncomputable def b81 : Code := bodyOf Try.f81
theorem b81_body : Try.f81.body = some b81 := by kernel_rfl
noncomputable def x81 : Code := sB (sB b81)
noncomputable def y81 : Code := sB x81
noncomputable def c81_3 : Code := ifA (sB (sA x81))
noncomputable def r81_0 : Array Oper := rOps (sA b81)
noncomputable def r81_1 : Array Oper := rOps (sA (sB b81))
noncomputable def r81_2 : Array Oper := rOps (sA (sA x81))
noncomputable def r81_4 : Array Oper := rOps (sA y81)
noncomputable def r81_5 : Array Oper := rOps (sA (sB y81))
noncomputable def r81_6 : Array Oper := rOps (sA (sB (sB y81)))
noncomputable def r81_7 : Array Oper := rOps (sA (sB (sB (sB y81))))
theorem b81_eq : b81 = .seq (.region 0 r81_0 false) (.seq (.region 1 r81_1 false) (.seq (.seq (.region 2 r81_2 false) (.cond (.tmp 16) c81_3 .skip)) (.seq (.region 4 r81_4 false) (.seq (.region 5 r81_5 true) (.seq (.region 6 r81_6 false) (.seq (.region 7 r81_7 false) .ret)))))) := by kernel_rfl
theorem ret81 : Try.f81.results.toList = [.tmp 6] := by kernel_rfl
theorem plan81_5 : ctx.plans 81 5 = some ⟨[0, 1, 2, 3, 4, 5], [], [⟨6, [], []⟩, ⟨7, [], []⟩]⟩ := by kernel_rfl
theorem h81_1 : r81_1.toList.drop 5 = (r81_1.toList.drop 5).headD default :: [] := by kernel_rfl
noncomputable def o81_5 : List Oper := opsAt r81_5 [0, 1, 2, 3, 4, 5]
theorem h81_5 : o81_5.drop 2 = (o81_5.drop 2).headD default :: o81_5.drop 3 := by kernel_rfl
theorem h81_5b : (o81_5.drop 3).drop 2 = ((o81_5.drop 3).drop 2).headD default :: [] := by kernel_rfl
theorem h81_5c : opsAt r81_5 [6] = (opsAt r81_5 [6]).headD default :: [] := by kernel_rfl
theorem h81_6 : r81_6.toList.drop 4 = (r81_6.toList.drop 4).headD default :: r81_6.toList.drop 5 := by kernel_rfl
theorem h81_6b : r81_6.toList.drop 5 = (r81_6.toList.drop 5).headD default :: [] := by kernel_rfl

section
variable [Atoms] {m : Mem}

theorem step_clear {call : CallF} {ops : Array Oper} {s : Slots} {o : Oper} {t : TypeId} {x : Operand} {u : Value} {m' : Mem} (hw : wanted ops s o = some true) (ho : o.op = .call { callee := .builtin .clear, args := #[x], argTypes := #[t] }) (hx : s.eval x = u)
    (hc : clearA ctx t u m = some m') : stepOp ctx call ops o s m = some (s.put o.dst (.tuple ⟨[]⟩), m') := by
  obtain ⟨dst, op, type, pos, after, guard⟩ := o
  simp only at ho
  subst ho
  unfold stepOp
  simp only [hw, Option.bind_some, cond_true, oper, prim, builtinA, List.map_cons, List.map_nil, hx, hc, unit1]

theorem clear_zone {z off c : Nat} {vs : List Value} (hz : m.get z = some (.cells vs 9 .sole)) (hle : off + 9 ≤ vs.length) : clearA ctx 28 (.slice (some ⟨z, off, none⟩) 1 c) m = some (m.put z (.cells (splice vs off z0.cells) 9 .sole)) := by
  have e : ∀ {α : Type} (xs : List α), rep 1 xs = xs := fun xs => by simp [rep]
  unfold clearA
  simp only [under28, Option.bind_some, show Nat.beq 1 0 = false from rfl, cond_false, elem28, elemOf28, info39_eq, zero39_eq, zero39_cells, e]
  exact storeN_sole hz (by rw [cells_length]; exact hle) (cells_all z0)

/-- zones are laid behind those ahead of them, within a known capacity -/
theorem append_in {z i c k os c2 : Nat} {vs : List Value} {l : List Z} (hk : k = l.length) (hz : m.get z = some (.cells vs 9 .sole)) (hlen : (i + k) * 9 ≤ vs.length) (hl : (vs.drop os).take (k * 9) = flat l) (hos : os + k * 9 ≤ vs.length) (hc : c < UNK) (hr : i + k ≤ c) (hbig : i + k ≤ BIG) :
    aappend ctx 28 28 (.slice (some ⟨z, 0, none⟩) i c) (.slice (some ⟨z, os, none⟩) k c2) m = some (.slice (some ⟨z, 0, none⟩) (i + k) c, m.put z (.cells (splice vs (0 + i * 9) (flat l)) 9 .sole)) := by
  have hs : appendSrc ctx 9 28 28 (.slice (some ⟨z, os, none⟩) k c2) m = some (k, flat l) := by
    unfold appendSrc
    rw [srcOk28]
    simp only [cond_true, lenV, Option.bind_some, srcCells]
    cases h0 : Nat.beq k 0 with
    | true =>
      have := Nat.eq_of_beq_eq_true h0
      subst this
      have : l = [] := List.length_eq_zero_iff.1 hk.symm
      subst this
      rfl
    | false =>
      simp only [cond_false]
      rw [loadN_get hz rfl hos, hl]
      rfl
  unfold aappend
  rw [elem28]
  simp only [Option.bind_some, hs, flat_all, cond_true, hz]
  rw [show Nat.ble (i + k) BIG = true from Nat.ble_eq_true_of_le hbig, show Nat.ble (0 + i * 9) vs.length = true from Nat.ble_eq_true_of_le (by omega)]
  simp only [show m.alive .sole = true from rfl, Nat.beq_refl, Bool.and_self, cond_true, appendTo, ble_false hc, cond_false]
  rw [show Nat.ble (i + k) c = true from Nat.ble_eq_true_of_le hr, storeN_sole hz (by rw [flat_length, ← hk]; omega) (flat_all l)]
  rfl

theorem slice_all {b off n c l h : Nat} {lo : Option Value} {hi : Value} (hc : c < UNK) (hl : optN 0 lo = some l) (hh : optN n (some hi) = some h) (h1 : l ≤ h) (h2 : h ≤ n) (h3 : n ≤ c) :
    ∃ v, sliceV ctx 28 (.slice (some ⟨b, off, none⟩) n c) lo (some hi) (some (.int .i64 n)) = some v := by
  have hb : Nat.ble UNK c = false := ble_false hc
  have hb2 : Nat.ble UNK n = false := ble_false (by omega)
  have hne : Nat.beq c UNK = false := by
    cases hq : Nat.beq c UNK with
    | false => rfl
    | true => have := Nat.eq_of_beq_eq_true hq; omega
  unfold sliceV
  simp only [under28, info39_eq, Option.bind_some, optCap, asN_nat, capOf, hb, cond_false, hne]
  rw [show Nat.ble n c = true from Nat.ble_eq_true_of_le h3, show Nat.blt n UNK = true from Nat.ble_eq_true_of_le (show n + 1 ≤ UNK by omega)]
  simp only [Bool.not_false, Bool.and_self, cond_true, Option.bind_some, hh, hl, hb2, cond_false]
  rw [show Nat.ble l h = true from Nat.ble_eq_true_of_le h1, show Nat.ble h n = true from Nat.ble_eq_true_of_le h2, show Nat.ble n UNK = true from Nat.ble_eq_true_of_le (by omega)]
  exact ⟨_, rfl⟩

/-- the row without the zone at i; behind it a zero, and what stood there -/
theorem rows_del {zs : List Z} {sp : List Value} {i n : Nat} (hn : zs.length = n) (h : i < n) :
    splice (splice (flat zs ++ sp) (0 + i * 9) (flat (zs.drop (i + 1)))) (0 + (n - 1) * 9) z0.cells = flat (zs.take i ++ zs.drop (i + 1)) ++ (z0.cells ++ sp) := by
  have l1 : (zs.take i).length = i := by simp; omega
  have e0 : flat zs ++ sp = flat (zs.take i) ++ (flat (zs.drop i) ++ sp) := by rw [← List.append_assoc, ← flat_append, List.take_append_drop]
  have e1 := splice_flat (zs.take i) (flat (zs.drop i) ++ sp) (flat (zs.drop (i + 1)))
  rw [l1] at e1
  rw [e0, e1, ← flat_append]
  have l2 : (zs.take i ++ zs.drop (i + 1)).length = n - 1 := by simp; omega
  have e2 := splice_flat (zs.take i ++ zs.drop (i + 1)) ((flat (zs.drop i) ++ sp).drop (flat (zs.drop (i + 1))).length) z0.cells
  rw [l2] at e2
  rw [e2, List.drop_drop, List.append_assoc]
  congr 2
  rw [List.drop_append, List.drop_eq_nil_of_le (by simp only [flat_length, List.length_drop, cells_length]; omega), List.nil_append]
  rw [show (flat (zs.drop (i + 1))).length + z0.cells.length - (flat (zs.drop i)).length = 0 from by simp only [flat_length, List.length_drop, cells_length]; omega, List.drop_zero]

set_option maxRecDepth 100000 in
set_option maxHeartbeats 1000000 in
theorem delete_run {call : CallF} {M : Mem} {z c i n : Nat} {zs : List Z} {sp : List Value} (hz : M.get z = some (.cells (flat zs ++ sp) 9 .sole)) (hsp : (flat zs ++ sp).length = c * 9) (hc : c < UNK) (hnn : zs.length = n) (hn : n ≤ 1000) (hi : i < n) :
    RunP ctx call 81 b81 (initSlots [.slice (some ⟨z, 0, none⟩) n c, .int .i64 i, .int .i64 ((i + 1 : Nat) : Int)]) M fun e s m => e = .ret ∧ s.get 6 = .slice (some ⟨z, 0, none⟩) (n - 1) c ∧ m.get z = some (.cells (flat (zs.take i ++ zs.drop (i + 1)) ++ (z0.cells ++ sp)) 9 .sole) ∧ (∀ o, o ≠ z → m.get o = M.get o) ∧ m.next = M.next := by
  have hfl : (flat zs).length = 9 * n := by rw [flat_length, hnn]
  have hnc : n ≤ c := by rw [List.length_append] at hsp; omega
  have hbig : BIG = 1073741824 := rfl
  rw [b81_eq]
  refine RunP.seq (RunP.region (OpsP.restM (m1 := M) (by kernel_rfl) (by kernel_rfl) ?_))
  obtain ⟨v0, hv0⟩ := slice_all (b := z) (off := 0) (n := n) (c := c) (lo := some (.int .i64 i)) (hi := .int .i64 ((i + 1 : Nat) : Int)) hc (asN_nat .i64 i) (asN_nat .i64 (i + 1)) (by omega) (by omega) hnc
  refine RunP.seq (RunP.region (OpsP.takeM (m1 := M) 5 (by kernel_rfl) (by kernel_rfl) ?_))
  refine OpsP.stepAt h81_1 (step_slice (x := .tmp 8) (lo := some (.tmp 9)) (hi := some (.tmp 10)) (mx := some (.tmp 12)) (l := some (.int .i64 i)) (h := some (.int .i64 ((i + 1 : Nat) : Int))) (k := some (.int .i64 n)) (by kernel_rfl) (by kernel_rfl) (u := .slice (some ⟨z, 0, none⟩) n c) (t := 28) (by kernel_rfl) (by kernel_rfl) (by kernel_rfl) (by kernel_rfl) hv0) (OpsP.nil ?_)
  refine RunP.seq (RunP.seq (RunP.region (OpsP.restM (m1 := M) (by kernel_rfl) (by kernel_rfl) ?_)))
  refine RunP.cond (t := decide ((i : Int) = ((i + 1 : Nat) : Int))) (by kernel_rfl) (fun ht => absurd (of_decide_eq_true ht) (by omega)) fun _ => RunP.skip ?_
  refine RunP.seq (RunP.region (OpsP.restM (m1 := M) (by kernel_rfl) (by kernel_rfl) ?_))
  refine RunP.seq (RunP.plan plan81_5 (by kernel_rfl) (by kernel_rfl) ?_)
  refine OpsP.takeM (m1 := M) 2 (by kernel_rfl) (by kernel_rfl) ?_
  refine OpsP.stepAt h81_5 (step_slice (x := .tmp 20) (lo := none) (hi := some (.tmp 21)) (mx := none) (l := none) (h := some (.int .i64 i)) (k := none) (by kernel_rfl) (by kernel_rfl) (u := .slice (some ⟨z, 0, none⟩) n c) (t := 28) (by kernel_rfl) rfl (by kernel_rfl) rfl (slice_head hc (asN_nat .i64 i) (by omega))) ?_
  refine OpsP.takeM (m1 := M) 2 (by kernel_rfl) (by kernel_rfl) ?_
  have hs2 : ∃ os c2, sliceV ctx 28 (.slice (some ⟨z, 0, none⟩) n c) (some (.int .i64 ((i + 1 : Nat) : Int))) none none = some (.slice (some ⟨z, os, none⟩) (n - (i + 1)) c2) ∧ os + (n - (i + 1)) * 9 ≤ c * 9 ∧ ((flat zs ++ sp).drop os).take ((n - (i + 1)) * 9) = flat (zs.drop (i + 1)) := by
    by_cases hlc : i + 1 < c
    · exact ⟨_, _, slice_tail hc (asN_nat .i64 (i + 1)) (by omega) hnc hlc, by omega, drop_flat (by omega)⟩
    · refine ⟨_, _, sliceV_known under28 info39_eq hc (lo := some (.int .i64 ((i + 1 : Nat) : Int))) (asN_nat .i64 (i + 1)) (hi := none) rfl (show i + 1 ≤ n by omega) hnc, ?_, ?_⟩
      · have : Nat.beq c (i + 1) = true := by have : c = i + 1 := by omega
                                              subst this; simp
        rw [this]
        simp only [cond_true]
        omega
      · rw [show n - (i + 1) = 0 from by omega, List.drop_eq_nil_of_le (show zs.length ≤ i + 1 by omega)]
        simp [flat]
  obtain ⟨os, c2, hs2, hos, hdt⟩ := hs2
  refine OpsP.stepAt h81_5b (step_slice (x := .tmp 23) (lo := some (.tmp 24)) (hi := none) (mx := none) (l := some (.int .i64 ((i + 1 : Nat) : Int))) (h := none) (k := none) (by kernel_rfl) (by kernel_rfl) (u := .slice (some ⟨z, 0, none⟩) n c) (t := 28) (by kernel_rfl) (by kernel_rfl) rfl rfl hs2) (OpsP.nil ⟨again_nil, ?_⟩)
  refine OpsP.stepAt h81_5c (step_append (x := .tmp 22) (y := .tmp 25) (st := 28) (xt := 28) (by kernel_rfl) (by kernel_rfl) (u := .slice (some ⟨z, 0, none⟩) i c) (v := .slice (some ⟨z, os, none⟩) (n - (i + 1)) c2) (by kernel_rfl) (by kernel_rfl)
    (append_in (l := zs.drop (i + 1)) (by simp [hnn]) hz (by rw [hsp]; omega) hdt (by rw [hsp]; exact hos) hc (by omega) (by omega))) (OpsP.nil ⟨again_nil, ?_⟩)
  rw [show i + (n - (i + 1)) = n - 1 from by omega]
  obtain ⟨M1, hM1⟩ : ∃ M1, M1 = M.put z (.cells (splice (flat zs ++ sp) (0 + i * 9) (flat (zs.drop (i + 1)))) 9 .sole) := ⟨_, rfl⟩
  rw [← hM1]
  have g1 : M1.get z = some (.cells (splice (flat zs ++ sp) (0 + i * 9) (flat (zs.drop (i + 1)))) 9 .sole) := by rw [hM1, Mem.get_put, if_pos rfl]
  have hdl : (flat (zs.drop (i + 1))).length = 9 * (n - (i + 1)) := by rw [flat_length, List.length_drop, hnn]
  have hle1 : 0 + i * 9 + (flat (zs.drop (i + 1))).length ≤ (flat zs ++ sp).length := by rw [hsp, hdl]; omega
  have hl1 : (splice (flat zs ++ sp) (0 + i * 9) (flat (zs.drop (i + 1)))).length = c * 9 := by rw [splice_length _ _ _ hle1, hsp]
  refine OpsP.restM (m1 := M1) (by kernel_rfl) (by kernel_rfl) ⟨again_nil, ?_⟩
  have hs3 : sliceV ctx 28 (.slice (some ⟨z, 0, none⟩) (n - 1) c) (some (.int .i64 ((n - 1 : Nat) : Int))) (some (.int .i64 n)) none = some (.slice (some ⟨z, 0 + (n - 1) * 9, none⟩) 1 (c - (n - 1))) := by
    rw [sliceV_known under28 info39_eq hc (lo := some (.int .i64 ((n - 1 : Nat) : Int))) (asN_nat .i64 (n - 1)) (hi := some (.int .i64 n)) (asN_nat .i64 n) (by omega) hnc, info39_size]
    have : Nat.beq c (n - 1) = false := by
      cases hq : Nat.beq c (n - 1) with
      | false => rfl
      | true => have := Nat.eq_of_beq_eq_true hq; omega
    rw [this, show n - (n - 1) = 1 from by omega]
    rfl
  refine RunP.seq (RunP.region (OpsP.takeM (m1 := M1) 4 (by kernel_rfl) (by kernel_rfl) ?_))
  refine OpsP.stepAt h81_6 (step_slice (x := .tmp 27) (lo := some (.tmp 29)) (hi := some (.tmp 30)) (mx := none) (l := some (.int .i64 ((n - 1 : Nat) : Int))) (h := some (.int .i64 n)) (k := none) (by kernel_rfl) (by kernel_rfl) (u := .slice (some ⟨z, 0, none⟩) (n - 1) c) (t := 28) (by kernel_rfl) (by kernel_rfl) (by kernel_rfl) rfl hs3) ?_
  refine OpsP.stepAt h81_6b (step_clear (x := .tmp 31) (t := 28) (u := .slice (some ⟨z, 0 + (n - 1) * 9, none⟩) 1 (c - (n - 1))) (by kernel_rfl) (by kernel_rfl) (by kernel_rfl) (clear_zone g1 (by rw [hl1]; omega))) (OpsP.nil ?_)
  rw [rows_del hnn hi]
  refine RunP.seq (RunP.region (OpsP.restM (m1 := M1.put z (.cells (flat (zs.take i ++ zs.drop (i + 1)) ++ (z0.cells ++ sp)) 9 .sole)) (by kernel_rfl) (by kernel_rfl) (RunP.ret ⟨rfl, by kernel_rfl, ?_, ?_, ?_⟩)))
  · rw [Mem.get_put, if_pos rfl]
  · intro o ho
    rw [Mem.get_put, if_neg ho, hM1, Mem.get_put, if_neg ho]
  · rw [hM1]; rfl
end
end Go.Ev.Dir

namespace Go.Ev.Dir
open Go.Ev Go.Proofs
set_option linter.unusedSectionVars false
set_option linter.unusedVariables false

noncomputable def b79 : Code := bodyOf Try.f79
theorem b79_body : Try.f79.body = some b79 := by kernel_rfl
noncomputable def x79_3 : Code := sB (sB (sB b79))
noncomputable def x79_5 : Code := sB x79_3
noncomputable def x79_6 : Code := sB x79_5
noncomputable def x79_8 : Code := sB x79_6
noncomputable def x79_13 : Code := sB x79_8
noncomputable def x79_14 : Code := sB x79_13
noncomputable def y79_9 : Code := ifA (sB (sA x79_8))
noncomputable def y79_15 : Code := ifA (sB (sA x79_14))
noncomputable def r79_0 : Array Oper := rOps (sA b79)
noncomputable def r79_1 : Array Oper := rOps (sA (sB b79))
noncomputable def r79_2 : Array Oper := rOps (sA (sB (sB b79)))
noncomputable def r79_3 : Array Oper := rOps (sA (sA x79_3))
noncomputable def r79_5 : Array Oper := rOps (sA x79_5)
noncomputable def r79_6 : Array Oper := rOps (sA (sA x79_6))
noncomputable def r79_7 : Array Oper := rOps (sA (ifA (sB (sA x79_6))))
noncomputable def r79_8 : Array Oper := rOps (sA (sA x79_8))
noncomputable def r79_9 : Array Oper := rOps (sA y79_9)
noncomputable def r79_10 : Array Oper := rOps (sA (sB y79_9))
noncomputable def r79_11 : Array Oper := rOps (sA (sB (sB y79_9)))
noncomputable def r79_12 : Array Oper := rOps (sA (sB (sB (sB y79_9))))
noncomputable def r79_13 : Array Oper := rOps (sA x79_13)
noncomputable def r79_14 : Array Oper := rOps (sA (sA x79_14))
noncomputable def r79_15 : Array Oper := rOps (sA y79_15)
noncomputable def r79_16 : Array Oper := rOps (sA (sB y79_15))
noncomputable def r79_17 : Array Oper := rOps (sA (sB (sB y79_15)))
noncomputable def c79_4 : Code := ifA (sB (sA x79_3))
noncomputable def c79_18 : Code := sB x79_14
noncomputable def c79_14 : Code := .seq (.seq (.region 14 r79_14 false) (.cond (.tmp 68) (.seq (.region 15 r79_15 true) (.seq (.region 16 r79_16 false) (.seq (.region 17 r79_17 false) .ret))) .skip)) c79_18
noncomputable def c79_8 : Code := .seq (.seq (.region 8 r79_8 false) (.cond (.tmp 31) (.seq (.region 9 r79_9 false) (.seq (.region 10 r79_10 false) (.seq (.region 11 r79_11 true) (.seq (.region 12 r79_12 false) .ret)))) .skip)) (.seq (.region 13 r79_13 false) c79_14)
noncomputable def c79_6 : Code := .seq (.seq (.region 6 r79_6 false) (.cond (.tmp 22) (.seq (.region 7 r79_7 false) .ret) .skip)) c79_8
theorem b79_eq : b79 = .seq (.region 0 r79_0 false) (.seq (.region 1 r79_1 false) (.seq (.region 2 r79_2 false) (.seq (.seq (.region 3 r79_3 false) (.cond (.tmp 16) c79_4 .skip)) (.seq (.region 5 r79_5 false) c79_6)))) := by kernel_rfl
theorem plan79_11 : ctx.plans 79 11 = some ⟨[0, 1, 2, 3, 4, 5, 6, 7], [], [⟨8, [], []⟩]⟩ := by kernel_rfl
theorem plan79_15 : ctx.plans 79 15 = some ⟨[0, 1, 2, 3, 4, 5, 6, 7], [], [⟨8, [], []⟩]⟩ := by kernel_rfl
theorem ret79 : Try.f79.results.toList = [.tmp 6] := by kernel_rfl

noncomputable def o79_11 : List Oper := opsAt r79_11 [0, 1, 2, 3, 4, 5, 6, 7]
noncomputable def o79_15 : List Oper := opsAt r79_15 [0, 1, 2, 3, 4, 5, 6, 7]
theorem h79_1_0_2 : r79_1.toList.drop 2 = (r79_1.toList.drop 2).headD default :: r79_1.toList.drop 3 := by kernel_rfl
theorem h79_7_0_2 : r79_7.toList.drop 2 = (r79_7.toList.drop 2).headD default :: r79_7.toList.drop 3 := by kernel_rfl
theorem h79_8_0_2 : r79_8.toList.drop 2 = (r79_8.toList.drop 2).headD default :: r79_8.toList.drop 3 := by kernel_rfl
theorem h79_8_3_4 : (r79_8.toList.drop 3).drop 1 = ((r79_8.toList.drop 3).drop 1).headD default :: r79_8.toList.drop 5 := by kernel_rfl
theorem h79_9_0_2 : r79_9.toList.drop 2 = (r79_9.toList.drop 2).headD default :: r79_9.toList.drop 3 := by kernel_rfl
theorem h79_9_3_5 : (r79_9.toList.drop 3).drop 2 = ((r79_9.toList.drop 3).drop 2).headD default :: r79_9.toList.drop 6 := by kernel_rfl
theorem h79_9_6_7 : (r79_9.toList.drop 6).drop 1 = ((r79_9.toList.drop 6).drop 1).headD default :: r79_9.toList.drop 8 := by kernel_rfl
theorem h79_9_8_8 : (r79_9.toList.drop 8) = ((r79_9.toList.drop 8)).headD default :: r79_9.toList.drop 9 := by kernel_rfl
theorem h79_10_0_2 : r79_10.toList.drop 2 = (r79_10.toList.drop 2).headD default :: r79_10.toList.drop 3 := by kernel_rfl
theorem h79_10_3_4 : (r79_10.toList.drop 3).drop 1 = ((r79_10.toList.drop 3).drop 1).headD default :: r79_10.toList.drop 5 := by kernel_rfl
theorem h79_11_0_3 : o79_11.drop 3 = (o79_11.drop 3).headD default :: o79_11.drop 4 := by kernel_rfl
theorem h79_11_4_4 : (o79_11.drop 4) = ((o79_11.drop 4)).headD default :: o79_11.drop 5 := by kernel_rfl
theorem h79_11_5_7 : (o79_11.drop 5).drop 2 = ((o79_11.drop 5).drop 2).headD default :: o79_11.drop 8 := by kernel_rfl
theorem h79_13_0_3 : r79_13.toList.drop 3 = (r79_13.toList.drop 3).headD default :: r79_13.toList.drop 4 := by kernel_rfl
theorem h79_13_4_4 : (r79_13.toList.drop 4) = ((r79_13.toList.drop 4)).headD default :: r79_13.toList.drop 5 := by kernel_rfl
theorem h79_14_0_4 : r79_14.toList.drop 4 = (r79_14.toList.drop 4).headD default :: r79_14.toList.drop 5 := by kernel_rfl
theorem h79_14_5_5 : (r79_14.toList.drop 5) = ((r79_14.toList.drop 5)).headD default :: r79_14.toList.drop 6 := by kernel_rfl
theorem h79_14_6_6 : (r79_14.toList.drop 6) = ((r79_14.toList.drop 6)).headD default :: r79_14.toList.drop 7 := by kernel_rfl
theorem h79_15_0_3 : o79_15.drop 3 = (o79_15.drop 3).headD default :: o79_15.drop 4 := by kernel_rfl
theorem h79_15_4_4 : (o79_15.drop 4) = ((o79_15.drop 4)).headD default :: o79_15.drop 5 := by kernel_rfl
theorem h79_15_5_7 : (o79_15.drop 5).drop 2 = ((o79_15.drop 5).drop 2).headD default :: o79_15.drop 8 := by kernel_rfl
theorem h79_16_0_2 : r79_16.toList.drop 2 = (r79_16.toList.drop 2).headD default :: r79_16.toList.drop 3 := by kernel_rfl
theorem h79_16_3_4 : (r79_16.toList.drop 3).drop 1 = ((r79_16.toList.drop 3).drop 1).headD default :: r79_16.toList.drop 5 := by kernel_rfl
theorem h79_11c : opsAt r79_11 [8] = (opsAt r79_11 [8]).headD default :: [] := by kernel_rfl
theorem h79_15c : opsAt r79_15 [8] = (opsAt r79_15 [8]).headD default :: [] := by kernel_rfl
theorem wrap_succ (n : Nat) (h : n ≤ 1000) : wrapF .i64 ((n : Int) + ((1 : Nat) : Int)) = ((n + 1 : Nat) : Int) := Eq.trans (wrapF_small (by omega) (by omega)) (by omega)
theorem wrap_sub (n i k : Nat) (h : n ≤ 1000) (hk : i + k = n + 1) : wrapF .i64 (((n + 1 : Nat) : Int) - i) = (k : Int) := Eq.trans (wrapF_small (by omega) (by omega)) (by omega)

/-- what Insert leaves -/
def InsPost (M : Mem) (z : Nat) (l : List Z) (n : Nat) (v : Value) (m : Mem) : Prop :=
  ∃ z' c' sp', v = .slice (some ⟨z', 0, none⟩) n c' ∧ m.get z' = some (.cells (flat l ++ sp') 9 .sole) ∧ (z' = z ∨ z' = M.next) ∧ (∀ o, o ≠ z → o < M.next → m.get o = M.get o) ∧ M.next ≤ m.next ∧ m.next ≤ M.next + 1 ∧ z' < m.next ∧ (∃ us, m.get z = some (.cells us 9 .sole)) ∧
    ((c' < UNK ∧ c' * 9 = (flat l ++ sp').length) ∨ c' = UNK + 9 + UNK * n)

section
variable [Atoms] {C : Ctx} {call : CallF} {ops : Array Oper} {s : Slots} {m : Mem}
theorem step_add {o : Oper} {t : TypeId} {x y : Operand} {w : TypeId} {k : IntKind} {a b c : Int} (hw : wanted ops s o = some true) (ho : o.op = .binOp .add t x y w) (hx : s.eval x = .int k a) (hy : s.eval y = .int k b) (hc : wrapF k (a + b) = c) :
    stepOp C call ops o s m = some (s.put o.dst (.int k c), m) := by
  obtain ⟨dst, op, type, pos, after, guard⟩ := o
  simp only at ho
  subst ho
  unfold stepOp
  simp only [hw, Option.bind_some, cond_true, oper, prim, hx, hy, binV, intB, decide_true, intOp, hc, pure1]
theorem step_sub {o : Oper} {t : TypeId} {x y : Operand} {w : TypeId} {k : IntKind} {a b c : Int} (hw : wanted ops s o = some true) (ho : o.op = .binOp .sub t x y w) (hx : s.eval x = .int k a) (hy : s.eval y = .int k b) (hc : wrapF k (a - b) = c) :
    stepOp C call ops o s m = some (s.put o.dst (.int k c), m) := by
  obtain ⟨dst, op, type, pos, after, guard⟩ := o
  simp only at ho
  subst ho
  unfold stepOp
  simp only [hw, Option.bind_some, cond_true, oper, prim, hx, hy, binV, intB, decide_true, intOp, hc, pure1]
end
section
variable [Atoms] {call : CallF} {M : Mem} {z v c n i : Nat} {zs : List Z} {b : Z} {sp : List Value}

set_option maxRecDepth 100000 in
set_option maxHeartbeats 1000000 in
theorem insert_end_room (h104 : ∀ args m, call 104 args m = toldR T104 args m) (hz : M.get z = some (.cells (flat zs ++ sp) 9 .sole)) (hv : M.get v = some (.cells b.cells 9 .sole)) (hzv : z ≠ v) (hzn : z < M.next) (hvn : v < M.next)
    (hsp : (flat zs ++ sp).length = c * 9) (hc : c < UNK) (hnn : zs.length = i) (hn : i ≤ 1000) (hr : i + 1 ≤ c) : RunP ctx call 79 b79 (initSlots [.slice (some ⟨z, 0, none⟩) i c, .int .i64 i, .slice (some ⟨v, 0, none⟩) 1 1]) M fun e s m => e = .ret ∧ InsPost M z (zs.take i ++ b :: zs.drop i) (i + 1) (s.get 6) m := by
  have hi : i ≤ i := Nat.le_refl i
  have hfl : (flat zs).length = 9 * i := by rw [flat_length, hnn]
  have hnc : i ≤ c := by rw [List.length_append] at hsp; omega
  have hbig : BIG = 1073741824 := rfl
  rw [b79_eq]
  refine RunP.seq (RunP.region ?_)
  refine OpsP.restM (m1 := M) (by kernel_rfl) (by kernel_rfl) ?_
  refine RunP.seq (RunP.region ?_)
  refine OpsP.takeM (m1 := M) 2 (by kernel_rfl) (by kernel_rfl) ?_
  refine OpsP.stepAt h79_1_0_2 (step_slice (x := .tmp 10) (lo := some (.tmp 11)) (hi := none) (mx := none) (l := some (.int .i64 i)) (h := none) (k := none) (by kernel_rfl) (by kernel_rfl) (u := .slice (some ⟨z, 0, none⟩) i c) (t := 28) (by kernel_rfl) (by kernel_rfl) rfl rfl (sliceV_known under28 info39_eq hc (asN_nat .i64 i) rfl hi hnc)) ?_
  refine OpsP.nil ?_
  refine RunP.seq (RunP.region ?_)
  refine OpsP.restM (m1 := M) (by kernel_rfl) (by kernel_rfl) ?_
  refine RunP.seq (RunP.seq (RunP.region ?_))
  refine OpsP.restM (m1 := M) (by kernel_rfl) (by kernel_rfl) ?_
  refine RunP.cond (t := false) (by kernel_rfl) (fun h => by cases h) fun _ => RunP.skip ?_
  refine RunP.seq (RunP.region ?_)
  refine OpsP.restM (m1 := M) (by kernel_rfl) (by kernel_rfl) ?_
  refine RunP.seq (RunP.seq (RunP.region ?_))
  refine OpsP.restM (m1 := M) (by kernel_rfl) (by kernel_rfl) ?_
  refine RunP.cond (t := decide ((i : Int) = (i : Int))) (by kernel_rfl) (fun _ => ?_) fun h => absurd (of_decide_eq_false h) (by simp)
  have hl : zs.take i ++ b :: zs.drop i = zs ++ [b] := by rw [List.take_of_length_le (by omega), List.drop_eq_nil_of_le (by omega)]
  rw [hl]
  have hfa : flat (zs ++ [b]) = flat zs ++ b.cells := by rw [flat_append]; simp [flat]
  refine RunP.seq (RunP.region ?_)
  refine OpsP.takeM (m1 := M) 2 (by kernel_rfl) (by kernel_rfl) ?_
  refine OpsP.stepAt h79_7_0_2 (step_append (x := .tmp 23) (y := .tmp 24) (st := 28) (xt := 28) (by kernel_rfl) (by kernel_rfl) (u := .slice (some ⟨z, 0, none⟩) i c) (v := .slice (some ⟨v, 0, none⟩) 1 1) (by kernel_rfl) (by kernel_rfl)
    (append_room hz hv (by rw [hsp]; omega) hc hr (by omega))) ?_
  refine OpsP.restM (m1 := M.put z (.cells (splice (flat zs ++ sp) (0 + i * 9) b.cells) 9 .sole)) (by kernel_rfl) (by kernel_rfl) ?_
  refine RunP.ret ⟨rfl, z, c, sp.drop 9, by kernel_rfl, ?_, .inl rfl, ?_, by simp, by simp, hzn, ⟨_, by rw [Mem.get_put, if_pos rfl]⟩, .inl ⟨hc, ?_⟩⟩
  · rw [Mem.get_put, if_pos rfl, ← hnn, splice_flat, hfa, cells_length]
  · intro o ho _
    rw [Mem.get_put, if_neg ho]
  · rw [hfa]
    simp only [List.length_append, List.length_drop, cells_length] at hsp ⊢
    omega

set_option maxRecDepth 100000 in
set_option maxHeartbeats 1000000 in
theorem insert_end_grow (h104 : ∀ args m, call 104 args m = toldR T104 args m) (hz : M.get z = some (.cells (flat zs ++ sp) 9 .sole)) (hv : M.get v = some (.cells b.cells 9 .sole)) (hzv : z ≠ v) (hzn : z < M.next) (hvn : v < M.next)
    (hsp : (flat zs ++ sp).length = c * 9) (hc : c < UNK) (hnn : zs.length = i) (hn : i ≤ 1000) (hr : c = i) : RunP ctx call 79 b79 (initSlots [.slice (some ⟨z, 0, none⟩) i c, .int .i64 i, .slice (some ⟨v, 0, none⟩) 1 1]) M fun e s m => e = .ret ∧ InsPost M z (zs.take i ++ b :: zs.drop i) (i + 1) (s.get 6) m := by
  have hi : i ≤ i := Nat.le_refl i
  have hfl : (flat zs).length = 9 * i := by rw [flat_length, hnn]
  have hnc : i ≤ c := by rw [List.length_append] at hsp; omega
  have hbig : BIG = 1073741824 := rfl
  rw [b79_eq]
  refine RunP.seq (RunP.region ?_)
  refine OpsP.restM (m1 := M) (by kernel_rfl) (by kernel_rfl) ?_
  refine RunP.seq (RunP.region ?_)
  refine OpsP.takeM (m1 := M) 2 (by kernel_rfl) (by kernel_rfl) ?_
  refine OpsP.stepAt h79_1_0_2 (step_slice (x := .tmp 10) (lo := some (.tmp 11)) (hi := none) (mx := none) (l := some (.int .i64 i)) (h := none) (k := none) (by kernel_rfl) (by kernel_rfl) (u := .slice (some ⟨z, 0, none⟩) i c) (t := 28) (by kernel_rfl) (by kernel_rfl) rfl rfl (sliceV_known under28 info39_eq hc (asN_nat .i64 i) rfl hi hnc)) ?_
  refine OpsP.nil ?_
  refine RunP.seq (RunP.region ?_)
  refine OpsP.restM (m1 := M) (by kernel_rfl) (by kernel_rfl) ?_
  refine RunP.seq (RunP.seq (RunP.region ?_))
  refine OpsP.restM (m1 := M) (by kernel_rfl) (by kernel_rfl) ?_
  refine RunP.cond (t := false) (by kernel_rfl) (fun h => by cases h) fun _ => RunP.skip ?_
  refine RunP.seq (RunP.region ?_)
  refine OpsP.restM (m1 := M) (by kernel_rfl) (by kernel_rfl) ?_
  refine RunP.seq (RunP.seq (RunP.region ?_))
  refine OpsP.restM (m1 := M) (by kernel_rfl) (by kernel_rfl) ?_
  refine RunP.cond (t := decide ((i : Int) = (i : Int))) (by kernel_rfl) (fun _ => ?_) fun h => absurd (of_decide_eq_false h) (by simp)
  have hl : zs.take i ++ b :: zs.drop i = zs ++ [b] := by rw [List.take_of_length_le (by omega), List.drop_eq_nil_of_le (by omega)]
  rw [hl]
  have hfa : flat (zs ++ [b]) = flat zs ++ b.cells := by rw [flat_append]; simp [flat]
  refine RunP.seq (RunP.region ?_)
  refine OpsP.takeM (m1 := M) 2 (by kernel_rfl) (by kernel_rfl) ?_
  refine OpsP.stepAt h79_7_0_2 (step_append (x := .tmp 23) (y := .tmp 24) (st := 28) (xt := 28) (by kernel_rfl) (by kernel_rfl) (u := .slice (some ⟨z, 0, none⟩) i c) (v := .slice (some ⟨v, 0, none⟩) 1 1) (by kernel_rfl) (by kernel_rfl)
    (append_grow (src_one hv) (cells_all b) hz (by rw [hsp]; omega) hc (by omega) (by omega))) ?_
  generalize hcU : UNK + 9 + UNK * (i + 1) = cU
  refine OpsP.restM (m1 := M.new (.cells ((flat zs ++ sp).take (i * 9) ++ b.cells) 9 .sole)) (by kernel_rfl) (by kernel_rfl) ?_
  refine RunP.ret ⟨rfl, M.next, cU, [], by kernel_rfl, ?_, .inr rfl, ?_, by simp, by simp, Nat.lt_succ_self _, ⟨_, by rw [Mem.get_new, if_neg (by omega)]; exact hz⟩, .inr hcU.symm⟩
  · rw [Mem.get_new, if_pos rfl, hfa, List.append_nil, List.take_append_of_le_length (by omega), List.take_of_length_le (by omega)]
  · intro o _ ho
    rw [Mem.get_new, if_neg (by omega)]

set_option maxRecDepth 100000 in
set_option maxHeartbeats 1000000 in
theorem insert_grow (h104 : ∀ args m, call 104 args m = toldR T104 args m) (hz : M.get z = some (.cells (flat zs ++ sp) 9 .sole)) (hv : M.get v = some (.cells b.cells 9 .sole)) (hzv : z ≠ v) (hzn : z < M.next) (hvn : v < M.next)
    (hsp : (flat zs ++ sp).length = c * 9) (hc : c < UNK) (hnn : zs.length = n) (hn : n ≤ 1000) (hi : i ≤ n) (hlt : i < n) (hr : c = n) : RunP ctx call 79 b79 (initSlots [.slice (some ⟨z, 0, none⟩) n c, .int .i64 i, .slice (some ⟨v, 0, none⟩) 1 1]) M fun e s m => e = .ret ∧ InsPost M z (zs.take i ++ b :: zs.drop i) (n + 1) (s.get 6) m := by
  have hfl : (flat zs).length = 9 * n := by rw [flat_length, hnn]
  have hnc : n ≤ c := by rw [List.length_append] at hsp; omega
  have hbig : BIG = 1073741824 := rfl
  rw [b79_eq]
  refine RunP.seq (RunP.region ?_)
  refine OpsP.restM (m1 := M) (by kernel_rfl) (by kernel_rfl) ?_
  refine RunP.seq (RunP.region ?_)
  refine OpsP.takeM (m1 := M) 2 (by kernel_rfl) (by kernel_rfl) ?_
  refine OpsP.stepAt h79_1_0_2 (step_slice (x := .tmp 10) (lo := some (.tmp 11)) (hi := none) (mx := none) (l := some (.int .i64 i)) (h := none) (k := none) (by kernel_rfl) (by kernel_rfl) (u := .slice (some ⟨z, 0, none⟩) n c) (t := 28) (by kernel_rfl) (by kernel_rfl) rfl rfl (sliceV_known under28 info39_eq hc (asN_nat .i64 i) rfl hi hnc)) ?_
  refine OpsP.nil ?_
  refine RunP.seq (RunP.region ?_)
  refine OpsP.restM (m1 := M) (by kernel_rfl) (by kernel_rfl) ?_
  refine RunP.seq (RunP.seq (RunP.region ?_))
  refine OpsP.restM (m1 := M) (by kernel_rfl) (by kernel_rfl) ?_
  refine RunP.cond (t := false) (by kernel_rfl) (fun h => by cases h) fun _ => RunP.skip ?_
  refine RunP.seq (RunP.region ?_)
  refine OpsP.restM (m1 := M) (by kernel_rfl) (by kernel_rfl) ?_
  refine RunP.seq (RunP.seq (RunP.region ?_))
  refine OpsP.restM (m1 := M) (by kernel_rfl) (by kernel_rfl) ?_
  refine RunP.cond (t := decide ((i : Int) = (n : Int))) (by kernel_rfl) (fun h => absurd (of_decide_eq_true h) (by omega)) fun _ => RunP.skip ?_
  have hlz : i < zs.length := by omega
  have hi2 : i ≤ 1000 := by omega

  refine RunP.seq (RunP.seq (RunP.region ?_))
  refine OpsP.takeM (m1 := M) 2 (by kernel_rfl) (by kernel_rfl) ?_
  refine OpsP.stepAt h79_8_0_2 (step_add (t := 3) (w := 3) (x := .tmp 26) (y := .tmp 27) (k := .i64) (a := n) (b := ((1 : Nat) : Int)) (c := ((n + 1 : Nat) : Int)) (by kernel_rfl) (by kernel_rfl) (by kernel_rfl) (by kernel_rfl) (wrap_succ n hn)) ?_
  refine OpsP.takeM (m1 := M) 1 (by kernel_rfl) (by kernel_rfl) ?_
  refine OpsP.stepAt h79_8_3_4 (step_cap (x := .tmp 29) (st := 28) (e := 39) (n := n) (a := some ⟨z, 0, none⟩) (c := c) (by kernel_rfl) (by kernel_rfl) (by kernel_rfl) under28 hc) ?_
  refine OpsP.restM (m1 := M) (by kernel_rfl) (by kernel_rfl) ?_
  refine RunP.cond (t := decide ((c : Int) < ((n + 1 : Nat) : Int))) (by kernel_rfl) (fun _ => ?_) fun h => absurd (of_decide_eq_false h) (by omega)
  obtain ⟨k, hk⟩ : ∃ k, k = n + 1 - i := ⟨_, rfl⟩
  have hN : i + k = n + 1 := by omega
  refine RunP.seq (RunP.region ?_)
  refine OpsP.takeM (m1 := M) 2 (by kernel_rfl) (by kernel_rfl) ?_
  refine OpsP.stepAt h79_9_0_2 (step_slice (x := .tmp 32) (lo := none) (hi := some (.tmp 33)) (mx := none) (l := none) (h := some (.int .i64 i)) (k := none) (by kernel_rfl) (by kernel_rfl) (u := .slice (some ⟨z, 0, none⟩) n c) (t := 28) (by kernel_rfl) rfl (by kernel_rfl) rfl (slice_head hc (asN_nat .i64 i) (by omega))) ?_
  refine OpsP.takeM (m1 := M) 2 (by kernel_rfl) (by kernel_rfl) ?_
  refine OpsP.stepAt h79_9_3_5 (step_add (t := 3) (w := 3) (x := .tmp 35) (y := .tmp 36) (k := .i64) (a := n) (b := ((1 : Nat) : Int)) (c := ((n + 1 : Nat) : Int)) (by kernel_rfl) (by kernel_rfl) (by kernel_rfl) (by kernel_rfl) (wrap_succ n hn)) ?_
  refine OpsP.takeM (m1 := M) 1 (by kernel_rfl) (by kernel_rfl) ?_
  refine OpsP.stepAt h79_9_6_7 (step_sub (t := 3) (w := 3) (x := .tmp 37) (y := .tmp 38) (k := .i64) (a := ((n + 1 : Nat) : Int)) (b := i) (c := (k : Int)) (by kernel_rfl) (by kernel_rfl) (by kernel_rfl) (by kernel_rfl) (wrap_sub n i k hn hN)) ?_
  refine OpsP.stepAt h79_9_8_8 (step_append (x := .tmp 34) (y := .tmp 39) (st := 28) (xt := 3) (by kernel_rfl) (by kernel_rfl) (u := .slice (some ⟨z, 0, none⟩) i c) (v := .int .i64 k) (by kernel_rfl) (by kernel_rfl)
    (append_grow (src_made (by omega) (by omega)) (flat_all _) hz (by rw [hsp]; omega) hc (by omega) (by omega))) ?_
  rw [take_flat (by omega), hN]
  have hsn := fun (l : Nat) (hl : l < n + 1) => slice_new (b := M.next) (n := n + 1) (lo := some (.int .i64 (l : Int))) (asN_nat .i64 l) hl
  generalize hcU : UNK + 9 + UNK * (n + 1) = cU at hsn ⊢
  obtain ⟨M1, hM1⟩ : ∃ M1, M1 = M.new (.cells (flat (zs.take i) ++ flat (List.replicate k z0)) 9 .sole) := ⟨_, rfl⟩
  rw [← hM1]
  have g1 : M1.get M.next = some (.cells (flat (zs.take i) ++ flat (List.replicate k z0)) 9 .sole) := by rw [hM1, Mem.get_new, if_pos rfl]
  have go : ∀ o, o < M.next → M1.get o = M.get o := fun o ho => by rw [hM1, Mem.get_new, if_neg (by omega)]
  have gn : M1.next = M.next + 1 := by rw [hM1]; rfl
  clear hM1
  have hX : (flat (zs.take i) ++ flat (List.replicate k z0)).length = (n + 1) * 9 := by simp only [List.length_append, flat_length, List.length_take, List.length_replicate, hnn]; omega
  refine OpsP.restM (m1 := M1) (by kernel_rfl) (by kernel_rfl) ?_
  obtain ⟨q1, hq1⟩ := hsn i (by omega)
  refine RunP.seq (RunP.region ?_)
  refine OpsP.takeM (m1 := M1) 2 (by kernel_rfl) (by kernel_rfl) ?_
  refine OpsP.stepAt h79_10_0_2 (step_slice (x := .tmp 41) (lo := some (.tmp 42)) (hi := none) (mx := none) (l := some (.int .i64 i)) (h := none) (k := none) (by kernel_rfl) (by kernel_rfl) (u := .slice (some ⟨M.next, 0, none⟩) (n + 1) cU) (t := 28) (by kernel_rfl) (by kernel_rfl) rfl rfl hq1) ?_
  refine OpsP.takeM (m1 := M1) 1 (by kernel_rfl) (by kernel_rfl) ?_
  refine OpsP.stepAt h79_10_3_4 (step_copy (x := .tmp 43) (y := .tmp 44) (st := 28) (xt := 28) (by kernel_rfl) (by kernel_rfl) (u := .slice (some ⟨M.next, 0 + i * 9, none⟩) (n + 1 - i) q1) (v := .slice (some ⟨v, 0, none⟩) 1 1) (by kernel_rfl) (by kernel_rfl)
    (copy_zones (l := [b]) (k := 1) rfl (by omega) (by omega) g1 ((go v hvn).trans hv) (by rw [cells_length]; omega) (by rw [show flat [b] = b.cells from by simp [flat]]; rfl) (by rw [hX]; omega))) ?_
  refine OpsP.nil ?_
  obtain ⟨M2, hM2⟩ : ∃ M2, M2 = M1.put M.next (.cells (splice (flat (zs.take i) ++ flat (List.replicate k z0)) (0 + i * 9) (flat [b])) 9 .sole) := ⟨_, rfl⟩
  rw [← hM2]
  have g2 : M2.get M.next = some (.cells (splice (flat (zs.take i) ++ flat (List.replicate k z0)) (0 + i * 9) (flat [b])) 9 .sole) := by rw [hM2, Mem.get_put, if_pos rfl]
  have go2 : ∀ o, o < M.next → M2.get o = M.get o := fun o ho => by rw [hM2, Mem.get_put, if_neg (by omega), go o ho]
  have gn2 : M2.next = M.next + 1 := by rw [hM2]; exact gn
  clear hM2
  obtain ⟨q2, hq2⟩ := hsn (i + 1) (by omega)
  refine RunP.seq (RunP.plan plan79_11 (by kernel_rfl) (by kernel_rfl) ?_)
  refine OpsP.takeM (m1 := M2) 3 (by kernel_rfl) (by kernel_rfl) ?_
  refine OpsP.stepAt h79_11_0_3 (step_add (t := 3) (w := 3) (x := .tmp 47) (y := .tmp 48) (k := .i64) (a := i) (b := ((1 : Nat) : Int)) (c := ((i + 1 : Nat) : Int)) (by kernel_rfl) (by kernel_rfl) (by kernel_rfl) (by kernel_rfl) (wrap_succ i hi2)) ?_
  refine OpsP.stepAt h79_11_4_4 (step_slice (x := .tmp 46) (lo := some (.tmp 49)) (hi := none) (mx := none) (l := some (.int .i64 ((i + 1 : Nat) : Int))) (h := none) (k := none) (by kernel_rfl) (by kernel_rfl) (u := .slice (some ⟨M.next, 0, none⟩) (n + 1) cU) (t := 28) (by kernel_rfl) (by kernel_rfl) rfl rfl hq2) ?_
  refine OpsP.takeM (m1 := M2) 2 (by kernel_rfl) (by kernel_rfl) ?_
  refine OpsP.stepAt h79_11_5_7 (step_slice (x := .tmp 51) (lo := some (.tmp 52)) (hi := none) (mx := none) (l := some (.int .i64 i)) (h := none) (k := none) (by kernel_rfl) (by kernel_rfl) (u := .slice (some ⟨z, 0, none⟩) n c) (t := 28) (by kernel_rfl) (by kernel_rfl) rfl rfl (slice_tail hc (asN_nat .i64 i) (by omega) hnc (by omega))) ?_
  refine OpsP.nil ⟨again_nil, ?_⟩
  refine OpsP.stepAt h79_11c (step_copy (x := .tmp 50) (y := .tmp 53) (st := 28) (xt := 28) (by kernel_rfl) (by kernel_rfl) (u := .slice (some ⟨M.next, 0 + (i + 1) * 9, none⟩) (n + 1 - (i + 1)) q2) (v := .slice (some ⟨z, 0 + i * 9, none⟩) (n - i) (c - i)) (by kernel_rfl) (by kernel_rfl)
    (copy_zones (l := zs.drop i) (k := n - i) (by simp [hnn]) (by omega) (by omega) g2 ((go2 z hzn).trans hz) (by rw [hsp]; omega) (drop_flat (by omega)) (by rw [splice_length _ _ _ (by rw [hX]; simp [flat_length]; omega), hX]; omega))) (OpsP.nil ⟨again_nil, ?_⟩)
  rw [rows_new hlz (by omega)]
  refine RunP.seq (RunP.region (OpsP.restM (m1 := M2.put M.next (.cells (flat (zs.take i ++ b :: zs.drop i)) 9 .sole)) (by kernel_rfl) (by kernel_rfl) (RunP.ret ⟨rfl, M.next, cU, [], by kernel_rfl, ?_, .inr rfl, ?_, ?_, ?_, (show M.next < M2.next by omega), ⟨_, by rw [Mem.get_put, if_neg (by omega), go2 z hzn]; exact hz⟩, .inr hcU.symm⟩)))
  · rw [Mem.get_put, if_pos rfl, List.append_nil]
  · intro o _ ho
    rw [Mem.get_put, if_neg (by omega), go2 o ho]
  · show M.next ≤ M2.next; omega
  · show M2.next ≤ M.next + 1; omega

set_option maxRecDepth 100000 in
set_option maxHeartbeats 1000000 in
theorem insert_room (h104 : ∀ args m, call 104 args m = toldR T104 args m) (hz : M.get z = some (.cells (flat zs ++ sp) 9 .sole)) (hv : M.get v = some (.cells b.cells 9 .sole)) (hzv : z ≠ v) (hzn : z < M.next) (hvn : v < M.next)
    (hsp : (flat zs ++ sp).length = c * 9) (hc : c < UNK) (hnn : zs.length = n) (hn : n ≤ 1000) (hi : i ≤ n) (hlt : i < n) (hcn : n + 1 ≤ c) : RunP ctx call 79 b79 (initSlots [.slice (some ⟨z, 0, none⟩) n c, .int .i64 i, .slice (some ⟨v, 0, none⟩) 1 1]) M fun e s m => e = .ret ∧ InsPost M z (zs.take i ++ b :: zs.drop i) (n + 1) (s.get 6) m := by
  have hfl : (flat zs).length = 9 * n := by rw [flat_length, hnn]
  have hnc : n ≤ c := by rw [List.length_append] at hsp; omega
  have hbig : BIG = 1073741824 := rfl
  rw [b79_eq]
  refine RunP.seq (RunP.region ?_)
  refine OpsP.restM (m1 := M) (by kernel_rfl) (by kernel_rfl) ?_
  refine RunP.seq (RunP.region ?_)
  refine OpsP.takeM (m1 := M) 2 (by kernel_rfl) (by kernel_rfl) ?_
  refine OpsP.stepAt h79_1_0_2 (step_slice (x := .tmp 10) (lo := some (.tmp 11)) (hi := none) (mx := none) (l := some (.int .i64 i)) (h := none) (k := none) (by kernel_rfl) (by kernel_rfl) (u := .slice (some ⟨z, 0, none⟩) n c) (t := 28) (by kernel_rfl) (by kernel_rfl) rfl rfl (sliceV_known under28 info39_eq hc (asN_nat .i64 i) rfl hi hnc)) ?_
  refine OpsP.nil ?_
  refine RunP.seq (RunP.region ?_)
  refine OpsP.restM (m1 := M) (by kernel_rfl) (by kernel_rfl) ?_
  refine RunP.seq (RunP.seq (RunP.region ?_))
  refine OpsP.restM (m1 := M) (by kernel_rfl) (by kernel_rfl) ?_
  refine RunP.cond (t := false) (by kernel_rfl) (fun h => by cases h) fun _ => RunP.skip ?_
  refine RunP.seq (RunP.region ?_)
  refine OpsP.restM (m1 := M) (by kernel_rfl) (by kernel_rfl) ?_
  refine RunP.seq (RunP.seq (RunP.region ?_))
  refine OpsP.restM (m1 := M) (by kernel_rfl) (by kernel_rfl) ?_
  refine RunP.cond (t := decide ((i : Int) = (n : Int))) (by kernel_rfl) (fun h => absurd (of_decide_eq_true h) (by omega)) fun _ => RunP.skip ?_
  have hlz : i < zs.length := by omega
  have hi2 : i ≤ 1000 := by omega

  refine RunP.seq (RunP.seq (RunP.region ?_))
  refine OpsP.takeM (m1 := M) 2 (by kernel_rfl) (by kernel_rfl) ?_
  refine OpsP.stepAt h79_8_0_2 (step_add (t := 3) (w := 3) (x := .tmp 26) (y := .tmp 27) (k := .i64) (a := n) (b := ((1 : Nat) : Int)) (c := ((n + 1 : Nat) : Int)) (by kernel_rfl) (by kernel_rfl) (by kernel_rfl) (by kernel_rfl) (wrap_succ n hn)) ?_
  refine OpsP.takeM (m1 := M) 1 (by kernel_rfl) (by kernel_rfl) ?_
  refine OpsP.stepAt h79_8_3_4 (step_cap (x := .tmp 29) (st := 28) (e := 39) (n := n) (a := some ⟨z, 0, none⟩) (c := c) (by kernel_rfl) (by kernel_rfl) (by kernel_rfl) under28 hc) ?_
  refine OpsP.restM (m1 := M) (by kernel_rfl) (by kernel_rfl) ?_
  refine RunP.cond (t := decide ((c : Int) < ((n + 1 : Nat) : Int))) (by kernel_rfl) (fun h => absurd (of_decide_eq_true h) (by omega)) fun _ => RunP.skip ?_
  refine RunP.seq (RunP.region ?_)
  refine OpsP.takeM (m1 := M) 3 (by kernel_rfl) (by kernel_rfl) ?_
  refine OpsP.stepAt h79_13_0_3 (step_add (t := 3) (w := 3) (x := .tmp 57) (y := .tmp 58) (k := .i64) (a := n) (b := ((1 : Nat) : Int)) (c := ((n + 1 : Nat) : Int)) (by kernel_rfl) (by kernel_rfl) (by kernel_rfl) (by kernel_rfl) (wrap_succ n hn)) ?_
  refine OpsP.stepAt h79_13_4_4 (step_slice (x := .tmp 56) (lo := none) (hi := some (.tmp 59)) (mx := none) (l := none) (h := some (.int .i64 ((n + 1 : Nat) : Int))) (k := none) (by kernel_rfl) (by kernel_rfl) (u := .slice (some ⟨z, 0, none⟩) n c) (t := 28) (by kernel_rfl) rfl (by kernel_rfl) rfl (slice_head hc (asN_nat .i64 (n + 1)) hcn)) ?_
  refine OpsP.restM (m1 := M) (by kernel_rfl) (by kernel_rfl) ?_
  refine RunP.seq (RunP.seq (RunP.region ?_))
  have hs1 : sliceV ctx 28 (.slice (some ⟨z, 0, none⟩) (n + 1) c) (some (.int .i64 ((i + 1 : Nat) : Int))) none none = some (.slice (some ⟨z, 0 + (i + 1) * 9, none⟩) (n + 1 - (i + 1)) (c - (i + 1))) := slice_tail hc (asN_nat .i64 (i + 1)) (by omega) hcn (by omega)
  have hs2 : sliceV ctx 28 (.slice (some ⟨z, 0, none⟩) (n + 1) c) (some (.int .i64 i)) none none = some (.slice (some ⟨z, 0 + i * 9, none⟩) (n + 1 - i) (c - i)) := slice_tail hc (asN_nat .i64 i) (by omega) hcn (by omega)
  have hcall : call 104 [.slice (some ⟨v, 0, none⟩) 1 1, .slice (some ⟨z, 0 + (i + 1) * 9, none⟩) (n + 1 - (i + 1)) (c - (i + 1))] M = some (.bool false, M) := by
    rw [h104]
    unfold toldR T104
    simp only [hv, hz]
    have e1 : Nat.beq v z = false := by
      cases hq : Nat.beq v z with
      | false => rfl
      | true => exact absurd (Nat.eq_of_beq_eq_true hq).symm hzv
    have e2 : Nat.blt 0 (flat zs ++ sp).length = true := Nat.ble_eq_true_of_le (by rw [hsp]; omega)
    have e3 : ((n + 1 - (i + 1) == 0) && (c - (i + 1) == UNK)) = false := by
      have : (n + 1 - (i + 1) == 0) = false := by simp; omega
      rw [this]; rfl
    rw [e1, e2, e3]
    rfl
  refine OpsP.takeM (m1 := M) 4 (by kernel_rfl) (by kernel_rfl) ?_
  refine OpsP.stepAt h79_14_0_4 (step_add (t := 3) (w := 3) (x := .tmp 63) (y := .tmp 64) (k := .i64) (a := i) (b := ((1 : Nat) : Int)) (c := ((i + 1 : Nat) : Int)) (by kernel_rfl) (by kernel_rfl) (by kernel_rfl) (by kernel_rfl) (wrap_succ i hi2)) ?_
  refine OpsP.stepAt h79_14_5_5 (step_slice (x := .tmp 62) (lo := some (.tmp 65)) (hi := none) (mx := none) (l := some (.int .i64 ((i + 1 : Nat) : Int))) (h := none) (k := none) (by kernel_rfl) (by kernel_rfl) (u := .slice (some ⟨z, 0, none⟩) (n + 1) c) (t := 28) (by kernel_rfl) (by kernel_rfl) rfl rfl hs1) ?_
  refine OpsP.stepAt h79_14_6_6 (step_call (g := 104) (f := .func 104) (args := #[.tmp 61, .tmp 66]) (ats := #[28, 28]) (by kernel_rfl) (by kernel_rfl) (by kernel_rfl) (by kernel_rfl) hcall) ?_
  refine OpsP.restM (m1 := M) (by kernel_rfl) (by kernel_rfl) ?_
  refine RunP.cond (t := true) (by kernel_rfl) (fun _ => ?_) fun h => by cases h
  refine RunP.seq (RunP.plan plan79_15 (by kernel_rfl) (by kernel_rfl) ?_)
  refine OpsP.takeM (m1 := M) 3 (by kernel_rfl) (by kernel_rfl) ?_
  refine OpsP.stepAt h79_15_0_3 (step_add (t := 3) (w := 3) (x := .tmp 70) (y := .tmp 71) (k := .i64) (a := i) (b := ((1 : Nat) : Int)) (c := ((i + 1 : Nat) : Int)) (by kernel_rfl) (by kernel_rfl) (by kernel_rfl) (by kernel_rfl) (wrap_succ i hi2)) ?_
  refine OpsP.stepAt h79_15_4_4 (step_slice (x := .tmp 69) (lo := some (.tmp 72)) (hi := none) (mx := none) (l := some (.int .i64 ((i + 1 : Nat) : Int))) (h := none) (k := none) (by kernel_rfl) (by kernel_rfl) (u := .slice (some ⟨z, 0, none⟩) (n + 1) c) (t := 28) (by kernel_rfl) (by kernel_rfl) rfl rfl hs1) ?_
  refine OpsP.takeM (m1 := M) 2 (by kernel_rfl) (by kernel_rfl) ?_
  refine OpsP.stepAt h79_15_5_7 (step_slice (x := .tmp 74) (lo := some (.tmp 75)) (hi := none) (mx := none) (l := some (.int .i64 i)) (h := none) (k := none) (by kernel_rfl) (by kernel_rfl) (u := .slice (some ⟨z, 0, none⟩) (n + 1) c) (t := 28) (by kernel_rfl) (by kernel_rfl) rfl rfl hs2) ?_
  refine OpsP.nil ⟨again_nil, ?_⟩
  refine OpsP.stepAt h79_15c (step_copy (x := .tmp 73) (y := .tmp 76) (st := 28) (xt := 28) (by kernel_rfl) (by kernel_rfl) (u := .slice (some ⟨z, 0 + (i + 1) * 9, none⟩) (n + 1 - (i + 1)) (c - (i + 1))) (v := .slice (some ⟨z, 0 + i * 9, none⟩) (n + 1 - i) (c - i)) (by kernel_rfl) (by kernel_rfl)
    (copy_zones (l := zs.drop i) (k := n - i) (by simp [hnn]) (by omega) (by omega) hz hz (by rw [hsp]; omega) (drop_flat (by omega)) (by rw [hsp]; omega))) (OpsP.nil ⟨again_nil, ?_⟩)
  obtain ⟨M1, hM1⟩ : ∃ M1, M1 = M.put z (.cells (splice (flat zs ++ sp) (0 + (i + 1) * 9) (flat (zs.drop i))) 9 .sole) := ⟨_, rfl⟩
  rw [← hM1]
  have g1 : M1.get z = some (.cells (splice (flat zs ++ sp) (0 + (i + 1) * 9) (flat (zs.drop i))) 9 .sole) := by rw [hM1, Mem.get_put, if_pos rfl]
  have go : ∀ o, o ≠ z → M1.get o = M.get o := fun o ho => by rw [hM1, Mem.get_put, if_neg ho]
  have gn : M1.next = M.next := by rw [hM1]; rfl
  clear hM1
  have hdl : (flat (zs.drop i)).length = 9 * (n - i) := by rw [flat_length, List.length_drop, hnn]
  have hsl : (splice (flat zs ++ sp) (0 + (i + 1) * 9) (flat (zs.drop i))).length = c * 9 := by rw [splice_length _ _ _ (by rw [hsp, hdl]; omega), hsp]
  refine RunP.seq (RunP.region ?_)
  refine OpsP.takeM (m1 := M1) 2 (by kernel_rfl) (by kernel_rfl) ?_
  refine OpsP.stepAt h79_16_0_2 (step_slice (x := .tmp 78) (lo := some (.tmp 79)) (hi := none) (mx := none) (l := some (.int .i64 i)) (h := none) (k := none) (by kernel_rfl) (by kernel_rfl) (u := .slice (some ⟨z, 0, none⟩) (n + 1) c) (t := 28) (by kernel_rfl) (by kernel_rfl) rfl rfl hs2) ?_
  refine OpsP.takeM (m1 := M1) 1 (by kernel_rfl) (by kernel_rfl) ?_
  refine OpsP.stepAt h79_16_3_4 (step_copy (x := .tmp 80) (y := .tmp 81) (st := 28) (xt := 28) (by kernel_rfl) (by kernel_rfl) (u := .slice (some ⟨z, 0 + i * 9, none⟩) (n + 1 - i) (c - i)) (v := .slice (some ⟨v, 0, none⟩) 1 1) (by kernel_rfl) (by kernel_rfl)
    (copy_zones (l := [b]) (k := 1) rfl (by omega) (by omega) g1 ((go v (fun e => hzv e.symm)).trans hv) (by rw [cells_length]; omega) (by rw [show flat [b] = b.cells from by simp [flat]]; rfl) (by rw [hsl]; omega))) ?_
  refine OpsP.nil ?_
  rw [rows_room hlz]
  refine RunP.seq (RunP.region (OpsP.restM (m1 := M1.put z (.cells (flat (zs.take i ++ b :: zs.drop i) ++ sp.drop 9) 9 .sole)) (by kernel_rfl) (by kernel_rfl) (RunP.ret ⟨rfl, z, c, sp.drop 9, by kernel_rfl, ?_, .inl rfl, ?_, ?_, ?_, (show z < M1.next by omega), ⟨_, by rw [Mem.get_put, if_pos rfl]⟩, .inl ⟨hc, ?_⟩⟩)))
  · rw [Mem.get_put, if_pos rfl]
  · intro o ho _
    rw [Mem.get_put, if_neg ho, go o ho]
  · show M.next ≤ M1.next; omega
  · show M1.next ≤ M.next + 1; omega
  · simp only [List.length_append, List.length_drop, flat_length, List.length_take, List.length_cons, hnn] at hsp ⊢
    omega

theorem insert_run (h104 : ∀ args m, call 104 args m = toldR T104 args m) (hz : M.get z = some (.cells (flat zs ++ sp) 9 .sole)) (hv : M.get v = some (.cells b.cells 9 .sole)) (hzv : z ≠ v) (hzn : z < M.next) (hvn : v < M.next)
    (hsp : (flat zs ++ sp).length = c * 9) (hc : c < UNK) (hnn : zs.length = n) (hn : n ≤ 1000) (hi : i ≤ n) : RunP ctx call 79 b79 (initSlots [.slice (some ⟨z, 0, none⟩) n c, .int .i64 i, .slice (some ⟨v, 0, none⟩) 1 1]) M fun e s m => e = .ret ∧ InsPost M z (zs.take i ++ b :: zs.drop i) (n + 1) (s.get 6) m := by
  have hfl : (flat zs).length = 9 * n := by rw [flat_length, hnn]
  have hnc : n ≤ c := by rw [List.length_append] at hsp; omega
  by_cases hin : i = n
  · subst hin
    by_cases hr : i + 1 ≤ c
    · exact insert_end_room h104 hz hv hzv hzn hvn hsp hc hnn hn hr
    · exact insert_end_grow h104 hz hv hzv hzn hvn hsp hc hnn hn (by omega)
  · by_cases hr : n + 1 ≤ c
    · exact insert_room h104 hz hv hzv hzn hvn hsp hc hnn hn hi (by omega) hr
    · exact insert_grow h104 hz hv hzv hzn hvn hsp hc hnn hn hi (by omega) (by omega)
end
end Go.Ev.Dir

namespace Go.Ev.Dir
open Go.Ev Go.Proofs
set_option linter.unusedSectionVars false

theorem splice_left {a b new : List Value} {k : Nat} : splice (a ++ b) (a.length + k) new = a ++ splice b k new := by
  unfold splice
  have e1 : (a ++ b).take (a.length + k) = a ++ b.take k := by rw [List.take_append, List.take_of_length_le (by omega), Nat.add_sub_cancel_left]
  have e2 : (a ++ b).drop (a.length + k + new.length) = b.drop (k + new.length) := by
    rw [List.drop_append, List.drop_eq_nil_of_le (by omega), List.nil_append, show a.length + k + new.length - a.length = k + new.length from by omega]
  rw [e1, e2]
  simp only [List.append_assoc]

theorem bool_cases (b : Bool) : b = true ∨ b = false := by cases b <;> simp

theorem bool_by {Q : Prop} (b : Bool) (ht : b = true → Q) (hf : b = false → Q) : Q := by
  cases b with
  | true => exact ht rfl
  | false => exact hf rfl

theorem flat_set : ∀ (zs : List Z) (j : Nat) (z : Z), flat (zs.set j z) = splice (flat zs) (9 * j) (if j < zs.length then z.cells else [])
  | [], j, z => by simp [flat, splice]
  | a :: r, 0, z => by
    simp only [List.set_cons_zero, flat, List.length_cons, Nat.zero_lt_succ, if_true, splice, List.take_zero, List.nil_append, Nat.mul_zero, Nat.zero_add]
    rw [cells_length, ← cells_length a, List.drop_left]
  | a :: r, j + 1, z => by
    simp only [List.set_cons_succ, flat, List.length_cons, Nat.add_lt_add_iff_right]
    rw [flat_set r j z, show 9 * (j + 1) = a.cells.length + 9 * j from by rw [cells_length]; omega, splice_left]

theorem splice_app {a b new : List Value} {off : Nat} (h : off + new.length ≤ a.length) : splice (a ++ b) off new = splice a off new ++ b := by
  unfold splice
  rw [List.take_append_of_le_length (by omega), List.drop_append_of_le_length (by omega), List.append_assoc, List.append_assoc, List.append_assoc]

theorem splice_in {a : List Value} {j f : Nat} {zc new : List Value} (h : (a.drop j).take 9 = zc) (hl : j + 9 ≤ a.length) (hf : f + new.length ≤ 9) : splice a (j + f) new = splice a j (splice zc f new) := by
  have hz : zc.length = 9 := by rw [← h]; simp; omega
  have hd : a = a.take j ++ (zc ++ a.drop (j + 9)) := by
    have h1 : a.drop j = zc ++ a.drop (j + 9) := by
      rw [← h, ← List.drop_drop, List.take_append_drop]
    rw [← h1, List.take_append_drop]
  have hlj : (a.take j).length = j := by simp; omega
  have hs : (splice zc f new).length = 9 := by unfold splice; simp; omega
  have e1 : splice a (j + f) new = a.take j ++ (splice zc f new ++ a.drop (j + 9)) := by
    conv => lhs; rw [hd]
    unfold splice
    rw [List.take_append, hlj, List.take_of_length_le (by omega), Nat.add_sub_cancel_left, List.take_append_of_le_length (by omega)]
    rw [List.drop_append, hlj, List.drop_eq_nil_of_le (by omega), List.nil_append, show j + f + new.length - j = f + new.length from by omega, List.drop_append_of_le_length (by omega)]
    simp only [List.append_assoc]
  rw [e1]
  unfold splice
  rw [← List.append_assoc]
  congr 2
  rw [show (zc.take f ++ new ++ zc.drop (f + new.length)).length = 9 from hs]

theorem storeN_zone [Atoms] {m : Mem} {b : Nat} {zs : List Z} {rest new : List Value} {j f : Nat} {z z' : Z} (hm : m.get b = some (.cells (flat zs ++ rest) 9 .sole)) (hz : zs[j]? = some z) (hf : f + new.length ≤ 9) (hc : new.all isCell = true) (hs : splice z.cells f new = z'.cells) :
    m.storeN b (0 + j * 9 + f) new = some (m.put b (.cells (flat (zs.set j z') ++ rest) 9 .sole)) := by
  have hj : j < zs.length := (List.getElem?_eq_some_iff.1 hz).1
  have hl := flat_length zs
  rw [storeN_sole hm (by simp; omega) hc]
  congr 3
  rw [splice_app (by omega), show 0 + j * 9 + f = 9 * j + f from by omega]
  have h9 : ((flat zs).drop (9 * j)).take 9 = z.cells := by
    rw [flat_drop, drop_at hz]
    show (z.cells ++ _).take 9 = _
    rw [List.take_append_of_le_length (by rw [cells_length]; omega), List.take_of_length_le (by rw [cells_length]; omega)]
  rw [splice_in h9 (by omega) hf, hs, flat_set, if_pos hj]

theorem set_at {α : Type} {l : List α} {j : Nat} {a b : α} (h : l[j]? = some a) : (l.set j b)[j]? = some b := by
  have hj : j < l.length := (List.getElem?_eq_some_iff.1 h).1
  simp [hj]
theorem set_ne {α : Type} {l : List α} {j k : Nat} {a b : α} (h : l[k]? = some a) (hn : j ≠ k) : (l.set j b)[k]? = some a := by
  rw [List.getElem?_set_ne hn]; exact h

section
variable [Atoms] {call : CallF} {ops : Array Oper} {s : Slots} {m : Mem}

/-- a field, or some, of a zone of a row -/
theorem step_loadF {o : Oper} {t : TypeId} {a : Operand} {b j f n : Nat} {ag : Bool} {st : Stat} {zs : List Z} {rest : List Value} {z : Z} {v : Value} (hw : wanted ops s o = some true) (ho : o.op = .load t a) (ha : s.eval a = ptr b (0 + j * 9 + f)) (ht : tinfo ctx t = some ⟨ag, n⟩)
    (hm : m.get b = some (.cells (flat zs ++ rest) 9 st)) (hal : m.alive st = true) (hz : zs[j]? = some z) (hfn : f + (bif ag then n else 1) ≤ 9) (hv : mkVal ag ((z.cells.drop f).take (bif ag then n else 1)) = some v) : stepOp ctx call ops o s m = some (s.put o.dst v, m) :=
  step_load hw ho ha ht (loadN_zone hm hal hz f _ hfn) hv

/-- the same, written -/
theorem step_storeF {o : Oper} {t : TypeId} {a x : Operand} {b j f : Nat} {i : TypeInfo} {u : Value} {zs : List Z} {rest : List Value} {z z' : Z} (hw : wanted ops s o = some true) (ho : o.op = .store t a x) (ha : s.eval a = ptr b (0 + j * 9 + f)) (hx : s.eval x = u) (hi : ctx.info t = some i)
    (hj : isJ u = false) (hc : Nat.beq (Val.cells u).length i.size = true) (hm : m.get b = some (.cells (flat zs ++ rest) 9 .sole)) (hz : zs[j]? = some z) (hf : f + (Val.cells u).length ≤ 9) (hall : (Val.cells u).all isCell = true) (hs : splice z.cells f (Val.cells u) = z'.cells) :
    stepOp ctx call ops o s m = some (s.put o.dst (.tuple ⟨[]⟩), m.put b (.cells (flat (zs.set j z') ++ rest) 9 .sole)) :=
  step_store hw ho ha hx hi hj hc (storeN_zone hm hz hf hall hs)

end

theorem prim_loadF [Atoms] {s : Slots} {m : Mem} {o : Oper} {t : TypeId} {a : Operand} {b j f n : Nat} {ag : Bool} {st : Stat} {zs : List Z} {rest : List Value} {z : Z} {v : Value} (ho : o.op = .load t a) (ha : s.eval a = ptr b (0 + j * 9 + f)) (ht : tinfo ctx t = some ⟨ag, n⟩)
    (hm : m.get b = some (.cells (flat zs ++ rest) 9 st)) (hal : m.alive st = true) (hz : zs[j]? = some z) (hfn : f + (bif ag then n else 1) ≤ 9) (hv : mkVal ag ((z.cells.drop f).take (bif ag then n else 1)) = some v) : fstOf (prim ctx s.eval o.op m) = some v := by
  rw [prim_load ho ha ht (loadN_zone hm hal hz f _ hfn) hv]; rfl

noncomputable def info3 : TypeInfo := (ctx.info 3).getD default
theorem info3_eq : ctx.info 3 = some info3 := by kernel_rfl
noncomputable def info9 : TypeInfo := (ctx.info 9).getD default
theorem info9_eq : ctx.info 9 = some info9 := by kernel_rfl
noncomputable def info37 : TypeInfo := (ctx.info 37).getD default
theorem info37_eq : ctx.info 37 = some info37 := by kernel_rfl

def ok1 : Value → Bool
  | .slice none _ _ => true
  | .slice (some ⟨_, _, none⟩) _ _ => true
  | .pointer none => true
  | .pointer (some ⟨_, _, none⟩) => true
  | v => flat1 v
theorem veq1_ok {v : Value} (h : ok1 v = true) : veq1 v v = true := by
  unfold ok1 at h
  split at h
  · simp [veq1, sameAddr]
  · simp [veq1, sameAddr]
  · simp [veq1, sameAddr]
  · simp [veq1, sameAddr]
  · exact veq1_flat h
theorem veqL_ok : ∀ {l : List Value}, l.all ok1 = true → veqL l l = true
  | [], _ => rfl
  | v :: r, h => by
    simp only [List.all_cons, Bool.and_eq_true] at h
    simp only [veqL, Bool.and_eq_true]
    exact ⟨veq1_ok h.1, veqL_ok h.2⟩
theorem veq_aggO {l : List Value} (h : l.all ok1 = true) : veq (.agg ⟨l⟩) (.agg ⟨l⟩) = true := veqL_ok h

theorem callN_told {C : Ctx} {X : FuncId → Option (List Value → Mem → Ret)} {n : Nat} {f : FuncId} {g : List Value → Mem → Ret} (h : X f = some g) (args : List Value) (m : Mem) : callN C X (n + 1) f args m = g args m := by simp only [callN, h]
theorem callN_fun {C : Ctx} {X : FuncId → Option (List Value → Mem → Ret)} {n : Nat} {f : FuncId} {fn : Func} (h : X f = none) (hf : C.funs.get f = some fn) (args : List Value) (m : Mem) : callN C X (n + 1) f args m = runFn C (callN C X n) f fn args m := by simp only [callN, h, hf]

/-- cases on a Bool that is not known -/
theorem OpsP.boolT {C : Ctx} {call : CallF} {ops : Array Oper} {l : List Oper} {s : Slots} {m : Mem} {Q : Slots → Mem → Prop} (d : Nat) {o : Oper} {r : List Oper} (hl : l = o :: r)
    (hs : stepOp C call ops o s m = some (s.put (some d) (.bool (Ev.boolAt d (stepOp C call ops o s m))), m)) (P : Bool) (he : Ev.boolAt d (stepOp C call ops o s m) = P) (ht : P = true → OpsP C call ops r (s.put (some d) (.bool true)) m Q) (hf : P = false → OpsP C call ops r (s.put (some d) (.bool false)) m Q) : OpsP C call ops l s m Q := by
  refine OpsP.boolAt d hl hs fun b hb => ?_
  rw [he] at hb
  cases b with
  | true => exact ht hb
  | false => exact hf hb
theorem OpsP.boolN {C : Ctx} {call : CallF} {ops : Array Oper} {l : List Oper} {s : Slots} {m : Mem} {Q : Slots → Mem → Prop} (d : Nat) {o : Oper} {r : List Oper} (hl : l = o :: r)
    (hs : stepOp C call ops o s m = some (s.put (some d) (.bool (Ev.boolAt d (stepOp C call ops o s m))), m)) (P : Bool) (he : Ev.boolAt d (stepOp C call ops o s m) = !P) (ht : P = true → OpsP C call ops r (s.put (some d) (.bool false)) m Q) (hf : P = false → OpsP C call ops r (s.put (some d) (.bool true)) m Q) : OpsP C call ops l s m Q := by
  refine OpsP.boolAt d hl hs fun b hb => ?_
  rw [he] at hb
  cases P with
  | true => cases b with
    | true => cases hb
    | false => exact ht rfl
  | false => cases b with
    | true => exact hf rfl
    | false => cases hb
/-- it is known already -/
theorem OpsP.boolK {C : Ctx} {call : CallF} {ops : Array Oper} {l : List Oper} {s : Slots} {m : Mem} {Q : Slots → Mem → Prop} (d : Nat) {o : Oper} {r : List Oper} (hl : l = o :: r)
    (hs : stepOp C call ops o s m = some (s.put (some d) (.bool (Ev.boolAt d (stepOp C call ops o s m))), m)) (P : Bool) {b : Bool} (he : Ev.boolAt d (stepOp C call ops o s m) = P) (hb : P = b) (h : OpsP C call ops r (s.put (some d) (.bool b)) m Q) : OpsP C call ops l s m Q := by
  refine OpsP.boolAt d hl hs fun b' hb' => ?_
  rw [he, hb] at hb'
  subst hb'
  exact h

/-- a call of which is known that it answers -/
theorem OpsP.callE [Atoms] {call : CallF} {ops : Array Oper} {s : Slots} {m : Mem} {Q : Slots → Mem → Prop} {l : List Oper} {o : Oper} {r : List Oper} (hl : l = o :: r) {f : Operand} {args : Array Operand} {ats : Array TypeId} {g : FuncId} {bs : List Value} {R : Value → Mem → Prop} (hw : wanted ops s o = some true) (ho : o.op = .call { callee := .value f, args := args, argTypes := ats })
    (hf : s.eval f = .func (.func g) ⟨[]⟩ ⟨[]⟩) (has : args.toList.map s.eval = bs) (hc : ∃ v m', call g bs m = some (v, m') ∧ R v m') (h : ∀ v m', R v m' → OpsP ctx call ops r (s.put o.dst v) m' Q) : OpsP ctx call ops l s m Q := by
  obtain ⟨v, m', h1, h2⟩ := hc
  exact OpsP.stepAt hl (step_call hw ho hf has h1) (h v m' h2)

theorem RunP.block {C : Ctx} {call : CallF} {fid id : Nat} {c : Code} {s : Slots} {m : Mem} {Q : Ex → Slots → Mem → Prop}
    (h : RunP C call fid c s m fun e s m => match e with | .exit i => if i = id then Q .normal s m else Q (.exit i) s m | e => Q e s m) : RunP C call fid (.block id c) s m Q := by
  obtain ⟨e, s1, m1, h1, h2⟩ := h
  cases e with
  | normal => exact ⟨.normal, s1, m1, by simp only [runCode, h1, Option.bind_some], h2⟩
  | ret => exact ⟨.ret, s1, m1, by simp only [runCode, h1, Option.bind_some], h2⟩
  | exit i =>
    by_cases hi : i = id
    · subst hi
      have h2' : Q .normal s1 m1 := by simpa using h2
      exact ⟨.normal, s1, m1, by simp only [runCode, h1, Option.bind_some, Nat.beq_refl, cond_true], h2'⟩
    · have h2' : Q (.exit i) s1 m1 := by simpa [hi] using h2
      have hb : Nat.beq i id = false := by
        cases hq : Nat.beq i id with
        | false => rfl
        | true => exact absurd (Nat.eq_of_beq_eq_true hq) hi
      exact ⟨.exit i, s1, m1, by simp only [runCode, h1, Option.bind_some, hb, cond_false], h2'⟩
theorem RunP.exit {C : Ctx} {call : CallF} {fid id : Nat} {s : Slots} {m : Mem} {Q : Ex → Slots → Mem → Prop} (h : Q (.exit id) s m) : RunP C call fid (.exit id) s m Q := ⟨_, _, _, rfl, h⟩

end Go.Ev.Dir

namespace Go.Ev.Dir
open Go.Ev Go.Proofs
set_option linter.unusedSectionVars false
set_option linter.unusedVariables false

theorem callL73 {l : List (Nat × (List Value → Mem → Ret))} {m : Mem} {o b : Nat} {id : Int} {zs : List Z} {c : Nat} {sp : List Value} {st : Stat} (hb : m.get b = some (.cells [.int .i64 id] 1 .sole)) (h1 : m.get o = some (.cells (flat zs ++ sp) 9 st)) (hal : m.alive st = true) (hc : (zs.length == 0 && c == UNK) = false) (hn : zs.length ≤ 1000) :
    callL ((73, toldR T73) :: l) 73 [.slice (some ⟨o, 0, none⟩) zs.length c, .func (.func 74) ⟨[]⟩ ⟨[ptr b 0]⟩] m = some (.int .i64 (findM zs id), m) := by
  unfold callL
  rw [callN_told (g := toldR T73) rfl]
  unfold toldR T73 ptr
  simp only [hb]
  rw [zonesAt_flat h1 hal hc hn]
  rfl

noncomputable def b38 : Code := bodyOf Try.f38
theorem b38_body : Try.f38.body = some b38 := by kernel_rfl
noncomputable def r38_0 : Array Oper := rOps (sA (b38))
noncomputable def r38_1 : Array Oper := rOps (sA (sB (b38)))
theorem b38_eq : b38 = .seq (.region 0 r38_0 false) (.seq (.region 1 r38_1 false) (.ret)) := by kernel_rfl
theorem ret38 : Try.f38.results.toList = [.tmp 4] := by kernel_rfl
theorem hr38_1_0_3 : r38_1.toList.drop 3 = (r38_1.toList.drop 3).headD default :: r38_1.toList.drop 4 := by kernel_rfl
def mZ (zs : List Z) : Mem := ⟨.node (some (.cells (flat zs) 9 .ro)) .leaf .leaf, 1⟩
theorem hf38 [Atoms] (v nx id : Int) (zs : List Z) (c : Nat) (hn : zs.length ≤ 1000) (hc : (zs.length == 0 && c == UNK) = false) : HF Try.prog ctx Try.f38 [.agg ⟨[.int .i64 v, .int .i64 nx, .slice (some ⟨0, 0, none⟩) zs.length c]⟩, .int .i64 id] (mZ zs) fun u _ => u = .int .i64 (findM zs id) := by
  intro B w0
  show HL _ _ _ _ b38 _ _ _
  rw [b38_eq]
  refine HL.seq ?_
  refine HL.reg (C := ctx) (call := callL [(73, toldR T73)]) (fid := 38) (sndL (l := [(73, toldR T73)]) ⟨ok73 _ _, trivial⟩ (by kernel_rfl)) ?_
  refine OpsP.rest (by kernel_rfl) ?_
  refine HL.seq ?_
  refine HL.reg (C := ctx) (call := callL [(73, toldR T73)]) (fid := 38) (sndL (l := [(73, toldR T73)]) ⟨ok73 _ _, trivial⟩ (by kernel_rfl)) ?_
  refine OpsP.take 3 (by kernel_rfl) ?_
  refine OpsP.stepAt hr38_1_0_3 (step_call (g := 73) (f := .func 73) (args := #[.tmp 6, .tmp 7]) (ats := #[28, 110]) (l := [.slice (some ⟨0, 0, none⟩) zs.length c, .func (.func 74) ⟨[]⟩ ⟨[ptr 2 0]⟩]) (by kernel_rfl) (by kernel_rfl) (by kernel_rfl) (by kernel_rfl) (callL73 (zs := zs) (sp := []) (c := c) (st := .ro) (id := id) (b := 2) (o := 0) (by kernel_rfl) (app_nil (by kernel_rfl)) rfl hc hn)) ?_
  refine OpsP.rest (by kernel_rfl) ?_
  refine HL.ret ?_
  exact Ends.ret1 (C := ctx) (R := fun u _ => u = .int .i64 (findM zs id)) ret38 (v := .int .i64 (findM zs id)) (by kernel_rfl) rfl

def T38 (args : List Value) (m : Mem) : Option Value := match args with
  | [.agg ⟨[.int .i64 _, .int .i64 _, x]⟩, .int .i64 id] => (zonesAt m x).bind fun zs => some (.int .i64 (findM zs id))
  | _ => none

theorem ok38 [Atoms] (B : Nat → Prop) (w0 : World) : CallOk Try.prog B w0 38 (toldR T38) := by
  refine CallOk.reads ctx_ok (P := Try.prog) (C := ctx) Try.func38 (by kernel_rfl) b38_body fun args m v h => ?_
  unfold T38 at h
  split at h
  · rename_i ver nx x id
    obtain ⟨zs, hz, h⟩ := Option.bind_eq_some_iff.1 h
    simp only [Option.some.injEq] at h
    subst h
    obtain ⟨o, c, vs, st2, rfl, ho, hal, hcc, hn, hfl⟩ := zonesAt_spec hz
    refine ⟨Free.flat rfl, fun _ => o, mZ zs, [.agg ⟨[.int .i64 ver, .int .i64 nx, .slice (some ⟨0, 0, none⟩) zs.length c]⟩, .int .i64 id], ?_, ?_, Nat.le_of_ble_eq_true (by kernel_rfl), hf38 ver nx id zs c hn hcc⟩
    · intro i hi
      have : i = 0 := by have : i < 1 := hi; omega
      subst this
      exact ⟨_, vs, 9, st2, rfl, ho, hal, by rw [flat_length, hfl]; exact LRen.zones zs⟩
    · exact LRen.cons (VRen.agg (.cons (VRen.int _ _) (.cons (VRen.int _ _) (.cons (VRen.slice (show 0 < 1 by decide) rfl hcc) .nil)))) (LRen.cons (VRen.int _ _) .nil)
  · cases h

end Go.Ev.Dir

namespace Go.Ev.Dir
open Go.Ev Go.Proofs
set_option linter.unusedSectionVars false
set_option linter.unusedVariables false

/-- a Dir (0), its zones (1), its hosts (2) -/
def mS (v nx : Int) (zs : List Z) (sp : List Value) (c : Nat) (hs : List Int) (hc : Nat) (st : Stat) : Mem :=
  ⟨.node (some (.cells (dirCells v nx 1 zs.length c (.slice (some ⟨2, 0, none⟩) hs.length hc)) 4 .sole)) (.node (some (.cells (flat zs ++ sp) 9 .sole)) .leaf .leaf) (.node (some (.cells (ints hs) 1 st)) .leaf .leaf), 3⟩
/-- the same, with two objects more -/
def mA (v nx : Int) (zs : List Z) (sp : List Value) (c : Nat) (hs : List Int) (hc : Nat) (st : Stat) (x3 x4 : AObj) : Mem :=
  ⟨.node (some (.cells (dirCells v nx 1 zs.length c (.slice (some ⟨2, 0, none⟩) hs.length hc)) 4 .sole)) (.node (some (.cells (flat zs ++ sp) 9 .sole)) (.node (some x3) .leaf .leaf) .leaf) (.node (some (.cells (ints hs) 1 st)) (.node (some x4) .leaf .leaf) .leaf), 5⟩

/-- a Dir in memory: what Apply leaves -/
def DirAt (m : Mem) (v nx : Int) (zs : List Z) (h : Value) (ho : Option AObj) : Prop :=
  ∃ z c sp, m.get 0 = some (.cells (dirCells v nx z zs.length c h) 4 .sole) ∧ m.get z = some (.cells (flat zs ++ sp) 9 .sole) ∧ (z = 1 ∨ 3 ≤ z) ∧ z < m.next ∧ m.get 2 = ho ∧ (∃ us, m.get 1 = some (.cells us 9 .sole)) ∧
    ((c < UNK ∧ c * 9 = (flat zs ++ sp).length) ∨ c = UNK + 9 + UNK * zs.length)

noncomputable def l15 : List (Nat × (List Value → Mem → Ret)) := [(37, toldR T37), (38, toldR T38), (73, toldR T73), (75, toldR TCut), (80, toldR TJoin), (76, toldR T76), (103, toldR T103), (104, toldR T104)]
noncomputable def cl (n : Nat) : CallF := callN ctx (tellL l15) n
theorem cl_told {f : FuncId} {g : List Value → Mem → Ret} (h : tellL l15 f = some g) (n : Nat) (args : List Value) (m : Mem) : cl (n + 1) f args m = g args m := callN_told h args m
theorem cl_fun {f : FuncId} {fn : Func} (h : tellL l15 f = none) (hf : ctx.funs.get f = some fn) (n : Nat) (args : List Value) (m : Mem) : cl (n + 1) f args m = runFn ctx (cl n) f fn args m := callN_fun h hf args m

theorem call75 (n : Nat) (a b k : ByteArray) (m : Mem) : cl (n + 1) 75 [spanV a b, .string k] m = some (cutV a b k, m) := by
  rw [cl_told (g := toldR TCut) rfl]; rfl
theorem call75_t {n : Nat} {a b k : ByteArray} {m : Mem} (h : cutB a b k = true) : cl (n + 1) 75 [spanV a b, .string k] m = some (.tuple ⟨[spanV a k, spanV k b, .bool true]⟩, m) := by rw [call75, cutV, h]; rfl
theorem call75_f {n : Nat} {a b k : ByteArray} {m : Mem} (h : cutB a b k = false) : cl (n + 1) 75 [spanV a b, .string k] m = some (.tuple ⟨[spanV nilS nilS, spanV nilS nilS, .bool false]⟩, m) := by rw [call75, cutV, h]; rfl
theorem call80 (n : Nat) (a b c d : ByteArray) (m : Mem) : cl (n + 1) 80 [spanV a b, spanV c d] m = some (joinV a b c d, m) := by
  rw [cl_told (g := toldR TJoin) rfl]; rfl
theorem call80_t {n : Nat} {a b c d : ByteArray} {m : Mem} (h : joinB a b c d = true) : cl (n + 1) 80 [spanV a b, spanV c d] m = some (.tuple ⟨[spanV a d, .bool true]⟩, m) := by rw [call80, joinV, h]; rfl
theorem call80_f {n : Nat} {a b c d : ByteArray} {m : Mem} (h : joinB a b c d = false) : cl (n + 1) 80 [spanV a b, spanV c d] m = some (.tuple ⟨[spanV nilS nilS, .bool false]⟩, m) := by rw [call80, joinV, h]; rfl

theorem emp_false {n c : Nat} (h : c < UNK) : (n == 0 && c == UNK) = false := by
  have : (c == UNK) = false := by simp; omega
  rw [this, Bool.and_false]

theorem call76 {n : Nat} {m : Mem} {v nx : Int} {zs : List Z} {c : Nat} {h : Value} {sp : List Value} {k : Int} (h0 : m.get 0 = some (.cells (dirCells v nx 1 zs.length c h) 4 .sole)) (h1 : m.get 1 = some (.cells (flat zs ++ sp) 9 .sole)) (hc : c < UNK) (hn : zs.length ≤ 1000) :
    cl (n + 1) 76 [ptr 0 0, .int .i64 k] m = some (.int .i64 ((cnt zs k : Nat) : Int), m) := by
  rw [cl_told (g := toldR T76) rfl]
  unfold toldR T76 ptr
  simp only [h0, dirCells]
  rw [zonesAt_flat h1 rfl (emp_false hc) hn]
  rfl

theorem call38 {n : Nat} {m : Mem} {v nx id f : Int} {zs : List Z} {c : Nat} {sp : List Value} (h1 : m.get 1 = some (.cells (flat zs ++ sp) 9 .sole)) (hc : c < UNK) (hn : zs.length ≤ 1000) (hf : findM zs id = f) :
    cl (n + 1) 38 [.agg ⟨[.int .i64 v, .int .i64 nx, .slice (some ⟨1, 0, none⟩) zs.length c]⟩, .int .i64 id] m = some (.int .i64 f, m) := by
  rw [cl_told (g := toldR T38) rfl]
  unfold toldR T38
  simp only
  rw [zonesAt_flat h1 rfl (emp_false hc) hn]
  simp only [Option.bind_some, hf]

theorem call37 {n : Nat} {m : Mem} {k : Ch} {b : Bool} (h : mayC k = b) : cl (n + 1) 37 [.agg ⟨k.cells⟩] m = some (.bool b, m) := by
  rw [cl_told (g := toldR T37) rfl, ← h]
  rfl

theorem call103 {n : Nat} {m : Mem} {o c : Nat} {l : List Int} {st : Stat} {x : Int} (hm : m.get o = some (.cells (ints l) 1 st)) (hal : m.alive st = true) (hc : (l.length == 0 && c == UNK) = false) (hn : l.length ≤ 1000) :
    cl (n + 1) 103 [.slice (some ⟨o, 0, none⟩) l.length c, .int .i64 x] m = some (.int .i64 (findI l x 0), m) := by
  rw [cl_told (g := toldR T103) rfl]
  unfold toldR T103
  simp only [intsAt_ints hm hal hc hn]
  rfl

end Go.Ev.Dir

namespace Go.Ev.Dir
open Go.Ev Go.Proofs
set_option linter.unusedSectionVars false
set_option linter.unusedVariables false
set_option linter.unusedSimpArgs false

variable [Atoms]

theorem wrap_i1 {i : Nat} (h : i ≤ 2000) : wrapF .i64 (((i : Nat) : Int) + 1) = ((i + 1 : Nat) : Int) := Eq.trans (wrapF_small (by omega) (by omega)) (by omega)
theorem wrap_i2 {i : Nat} (h : i ≤ 2000) : wrapF .i64 (((i : Nat) : Int) + 2) = ((i + 1 + 1 : Nat) : Int) := Eq.trans (wrapF_small (by omega) (by omega)) (by omega)
theorem wrap_len {i j : Nat} (h : i + j ≤ 4000) : wrapF .i64 (((i : Nat) : Int) + ((j : Nat) : Int)) = (((i : Nat) : Int) + ((j : Nat) : Int)) := wrapF_small (by omega) (by omega)
theorem wrap_p1 {x : Int} (h0 : 0 ≤ x) (h : x < 1099511627777) : wrapF .i64 (x + 1) = x + 1 := wrapF_small (by omega) (by omega)

def Z.ended (z : Z) (e : Int) : Z := { z with ep := e, pend := 0, to := 0, key := nilS, new := 0 }

/-- what a kind of change leaves -/
def KPost (v nx : Int) (zs : List Z) (h : Value) (ho : Option AObj) (o : Option (Int × List Z)) (e : Ex) (s : Slots) (m : Mem) : Prop :=
  e = .ret ∧ s.get 6 = .bool o.isSome ∧ DirAt m v (match o with | some x => x.1 | none => nx) (match o with | some x => x.2 | none => zs) h ho

theorem KPost.no {v nx : Int} {zs : List Z} {h : Value} {ho : Option AObj} {o : Option (Int × List Z)} {e : Ex} {s : Slots} {m : Mem} (hM : o = none) (he : e = .ret) (hb : s.get 6 = .bool false) (hd : DirAt m v nx zs h ho) : KPost v nx zs h ho o e s m := by
  subst hM; exact ⟨he, hb, hd⟩
theorem KPost.yes {v nx : Int} {zs : List Z} {h : Value} {ho : Option AObj} {o : Option (Int × List Z)} {x : Int × List Z} {e : Ex} {s : Slots} {m : Mem} (hM : o = some x) (he : e = .ret) (hb : s.get 6 = .bool true) (hd : DirAt m v x.1 x.2 h ho) : KPost v nx zs h ho o e s m := by
  subst hM; exact ⟨he, hb, hd⟩

def splitM (nx : Int) (zs : List Z) (i : Nat) (z : Z) (k : Ch) : Option (Int × List Z) :=
  bif decide (z.pend = 0) && (cutB z.lo z.hi k.key && (!decide (16 ≤ ((zs.length : Nat) : Int) + ((cnt zs 1 : Nat) : Int)) && !decide (1099511627776 ≤ nx))) then some (nx + 1, zs.set i { z with pend := 1, key := k.key, new := nx }) else none
def moveM (nx : Int) (zs : List Z) (i : Nat) (z : Z) (k : Ch) (hs : List Int) : Option (Int × List Z) :=
  bif decide (z.pend = 0) && (decide (0 ≤ findI hs k.to 0) && (!decide (k.to = z.own) && !decide (2 ≤ ((cnt zs 3 : Nat) : Int)))) then some (nx, zs.set i { z with pend := 3, to := k.to }) else none
def abortM (nx : Int) (zs : List Z) (i : Nat) (z : Z) (k : Ch) : Option (Int × List Z) :=
  bif decide (z.pend = 3) && (decide (z.ep = k.ep) && !decide (1099511627776 ≤ z.ep)) then some (nx, zs.set i (z.ended (z.ep + 1))) else none

noncomputable def b77 : Code := bodyOf Try.f77
theorem b77_body : Try.f77.body = some b77 := by kernel_rfl
noncomputable def r77_0 : Array Oper := rOps (sA (b77))
noncomputable def r77_1 : Array Oper := rOps (sA (sB (b77)))
theorem b77_eq : b77 = .seq (.region 0 r77_0 false) (.seq (.region 1 r77_1 false) (.ret)) := by kernel_rfl
theorem ret77 : Try.f77.results.toList = [.tmp 4] := by kernel_rfl
theorem hr77_1_0_2 : r77_1.toList.drop 2 = (r77_1.toList.drop 2).headD default :: r77_1.toList.drop 3 := by kernel_rfl
theorem hr77_1_3_3 : (r77_1.toList.drop 3) = ((r77_1.toList.drop 3)).headD default :: r77_1.toList.drop 4 := by kernel_rfl
theorem contains_run {n : Nat} {m : Mem} {o c : Nat} {l : List Int} {st : Stat} {x : Int} (hm : m.get o = some (.cells (ints l) 1 st)) (hal : m.alive st = true) (hce : (l.length == 0 && c == UNK) = false) (hn : l.length ≤ 1000) :
    RunP ctx (cl (n + 1)) 77 b77 (initSlots [.slice (some ⟨o, 0, none⟩) l.length c, .int .i64 x]) m fun e s m1 => e = .ret ∧ s.get 4 = .bool (decide (0 ≤ findI l x 0)) ∧ m1 = m := by
  rw [b77_eq]
  refine RunP.seq ?_
  refine RunP.region ?_
  refine OpsP.rest (by kernel_rfl) ?_
  refine RunP.seq ?_
  refine RunP.region ?_
  refine OpsP.take 2 (by kernel_rfl) ?_
  refine OpsP.stepAt hr77_1_0_2 (step_call (g := 103) (f := .func 103) (args := #[.tmp 5, .tmp 6]) (ats := #[43, 3]) (l := [.slice (some ⟨o, 0, none⟩) l.length c, .int .i64 (x)]) (by kernel_rfl) (by kernel_rfl) (by kernel_rfl) (by kernel_rfl) (call103 hm hal hce hn)) ?_
  refine OpsP.boolT 8 hr77_1_3_3 (by kernel_rfl) (decide (0 ≤ findI l x 0)) (by kernel_rfl) (fun q1 => ?_) fun q1 => ?_
  ·
    refine OpsP.rest (by kernel_rfl) ?_
    refine RunP.ret ?_
    exact ⟨rfl, Eq.trans (b := .bool true) (by kernel_rfl) (congrArg Value.bool q1.symm), by kernel_rfl⟩
  ·
    refine OpsP.rest (by kernel_rfl) ?_
    refine RunP.ret ?_
    exact ⟨rfl, Eq.trans (b := .bool false) (by kernel_rfl) (congrArg Value.bool q1.symm), by kernel_rfl⟩

theorem call77 {n : Nat} {m : Mem} {o c : Nat} {l : List Int} {st : Stat} {x : Int} {b : Bool} (hm : m.get o = some (.cells (ints l) 1 st)) (hal : ∀ m : Mem, m.alive st = true) (hce : (l.length == 0 && c == UNK) = false) (hn : l.length ≤ 1000) (hb : decide (0 ≤ findI l x 0) = b) :
    cl (n + 2) 77 [.slice (some ⟨o, 0, none⟩) l.length c, .int .i64 x] m = some (.bool b, m) := by
  rw [cl_fun (fn := Try.f77) (by kernel_rfl) (by kernel_rfl)]
  obtain ⟨v, m', h1, rfl, rfl⟩ := runFn_of (C := ctx) (call := cl (n + 1)) (fid := 77) (fn := Try.f77) (args := [.slice (some ⟨o, 0, none⟩) l.length c, .int .i64 x]) (m := m) (R := fun v m1 => v = .bool b ∧ m1 = m) b77_body (by kernel_rfl)
    (RunP.mono (contains_run hm (hal m) hce hn) fun e s m1 ⟨h1, h2, h3⟩ => ⟨fun id q => (by rw [h1] at q; cases q), [.bool b], by rw [ret77]; simp only [resV, h2, hb, Option.bind_some], rfl, h3⟩)
  exact h1

noncomputable def b39 : Code := bodyOf Try.f39
theorem b39_body : Try.f39.body = some b39 := by kernel_rfl
noncomputable def r39_0 : Array Oper := rOps (sA (b39))
noncomputable def r39_1 : Array Oper := rOps (sA (sB (b39)))
noncomputable def r39_2 : Array Oper := rOps (sA (sB (sB (b39))))
noncomputable def r39_3 : Array Oper := rOps (sA (sA (sB (sB (sB (b39))))))
noncomputable def r39_4 : Array Oper := rOps (sA (ifA (sB (sA (sB (sB (sB (b39))))))))
noncomputable def r39_5 : Array Oper := rOps (sA (sB (sB (sB (sB (b39))))))
noncomputable def r39_6 : Array Oper := rOps (sA (sB (sB (sB (sB (sB (b39)))))))
noncomputable def r39_7 : Array Oper := rOps (sA (sB (sB (sB (sB (sB (sB (b39))))))))
theorem b39_eq : b39 = .seq (.region 0 r39_0 false) (.seq (.region 1 r39_1 false) (.seq (.region 2 r39_2 true) (.seq (.seq (.region 3 r39_3 true) (.cond (.tmp 57) (.seq (.region 4 r39_4 false) (.ret)) (.skip))) (.seq (.region 5 r39_5 true) (.seq (.region 6 r39_6 false) (.seq (.region 7 r39_7 false) (.ret))))))) := by kernel_rfl
theorem ret39 : Try.f39.results.toList = [.tmp 6] := by kernel_rfl
theorem hr39_1_0_6 : r39_1.toList.drop 6 = (r39_1.toList.drop 6).headD default :: r39_1.toList.drop 7 := by kernel_rfl
theorem plan39_2 : ctx.plans 39 2 = some ⟨[0, 1, 2, 3, 4, 5, 11, 12], [3, 5], [⟨6, [7, 8, 9, 10], []⟩, ⟨13, [], []⟩, ⟨14, [], []⟩, ⟨15, [], []⟩]⟩ := by kernel_rfl
theorem hr39_2_0_1_2_3_4_5_11_12_0_3 : (opsAt r39_2 [0, 1, 2, 3, 4, 5, 11, 12]).drop 3 = ((opsAt r39_2 [0, 1, 2, 3, 4, 5, 11, 12]).drop 3).headD default :: (opsAt r39_2 [0, 1, 2, 3, 4, 5, 11, 12]).drop 4 := by kernel_rfl
theorem hr39_2_6_7_8_9_10_0_0 : (opsAt r39_2 [6, 7, 8, 9, 10]) = ((opsAt r39_2 [6, 7, 8, 9, 10])).headD default :: (opsAt r39_2 [6, 7, 8, 9, 10]).drop 1 := by kernel_rfl
theorem plan39_3 : ctx.plans 39 3 = some ⟨[0, 1, 2, 3, 4, 5, 6, 7, 8, 9, 10, 11, 12, 13, 14, 15, 16], [3, 14, 15], [⟨17, [18, 19, 20, 21, 22, 23, 24, 25, 26, 27, 28], [14, 15, 26]⟩]⟩ := by kernel_rfl
theorem hr39_3_0_1_2_3_4_5_6_7_8_9_10_11_12_13_14_15_16_0_3 : (opsAt r39_3 [0, 1, 2, 3, 4, 5, 6, 7, 8, 9, 10, 11, 12, 13, 14, 15, 16]).drop 3 = ((opsAt r39_3 [0, 1, 2, 3, 4, 5, 6, 7, 8, 9, 10, 11, 12, 13, 14, 15, 16]).drop 3).headD default :: (opsAt r39_3 [0, 1, 2, 3, 4, 5, 6, 7, 8, 9, 10, 11, 12, 13, 14, 15, 16]).drop 4 := by kernel_rfl
theorem hr39_3_0_1_2_3_4_5_6_7_8_9_10_11_12_13_14_15_16_4_4 : ((opsAt r39_3 [0, 1, 2, 3, 4, 5, 6, 7, 8, 9, 10, 11, 12, 13, 14, 15, 16]).drop 4) = (((opsAt r39_3 [0, 1, 2, 3, 4, 5, 6, 7, 8, 9, 10, 11, 12, 13, 14, 15, 16]).drop 4)).headD default :: (opsAt r39_3 [0, 1, 2, 3, 4, 5, 6, 7, 8, 9, 10, 11, 12, 13, 14, 15, 16]).drop 5 := by kernel_rfl
theorem hr39_3_17_18_19_20_21_22_23_24_25_26_27_28_0_0 : (opsAt r39_3 [17, 18, 19, 20, 21, 22, 23, 24, 25, 26, 27, 28]) = ((opsAt r39_3 [17, 18, 19, 20, 21, 22, 23, 24, 25, 26, 27, 28])).headD default :: (opsAt r39_3 [17, 18, 19, 20, 21, 22, 23, 24, 25, 26, 27, 28]).drop 1 := by kernel_rfl
theorem hr39_3_17_18_19_20_21_22_23_24_25_26_27_28_1_1 : ((opsAt r39_3 [17, 18, 19, 20, 21, 22, 23, 24, 25, 26, 27, 28]).drop 1) = (((opsAt r39_3 [17, 18, 19, 20, 21, 22, 23, 24, 25, 26, 27, 28]).drop 1)).headD default :: (opsAt r39_3 [17, 18, 19, 20, 21, 22, 23, 24, 25, 26, 27, 28]).drop 2 := by kernel_rfl
theorem hr39_3_17_18_19_20_21_22_23_24_25_26_27_28_2_2 : ((opsAt r39_3 [17, 18, 19, 20, 21, 22, 23, 24, 25, 26, 27, 28]).drop 2) = (((opsAt r39_3 [17, 18, 19, 20, 21, 22, 23, 24, 25, 26, 27, 28]).drop 2)).headD default :: (opsAt r39_3 [17, 18, 19, 20, 21, 22, 23, 24, 25, 26, 27, 28]).drop 3 := by kernel_rfl
theorem hr39_3_17_18_19_20_21_22_23_24_25_26_27_28_3_10 : ((opsAt r39_3 [17, 18, 19, 20, 21, 22, 23, 24, 25, 26, 27, 28]).drop 3).drop 7 = (((opsAt r39_3 [17, 18, 19, 20, 21, 22, 23, 24, 25, 26, 27, 28]).drop 3).drop 7).headD default :: (opsAt r39_3 [17, 18, 19, 20, 21, 22, 23, 24, 25, 26, 27, 28]).drop 11 := by kernel_rfl
theorem plan39_5 : ctx.plans 39 5 = some ⟨[0, 1, 2, 3, 4, 5, 6, 7, 8, 9, 10, 11], [4, 9], [⟨12, [13, 14], [4]⟩, ⟨15, [16, 17], []⟩, ⟨18, [], []⟩]⟩ := by kernel_rfl
theorem hr39_5_12_13_14_0_0 : (opsAt r39_5 [12, 13, 14]) = ((opsAt r39_5 [12, 13, 14])).headD default :: (opsAt r39_5 [12, 13, 14]).drop 1 := by kernel_rfl
theorem hr39_5_15_16_17_0_0 : (opsAt r39_5 [15, 16, 17]) = ((opsAt r39_5 [15, 16, 17])).headD default :: (opsAt r39_5 [15, 16, 17]).drop 1 := by kernel_rfl
theorem hr39_5_18_0_0 : (opsAt r39_5 [18]) = ((opsAt r39_5 [18])).headD default :: (opsAt r39_5 [18]).drop 1 := by kernel_rfl
theorem hr39_6_0_5 : r39_6.toList.drop 5 = (r39_6.toList.drop 5).headD default :: r39_6.toList.drop 6 := by kernel_rfl
set_option maxRecDepth 100000 in
set_option maxHeartbeats 0 in
theorem split_run {n i : Nat} {v nx : Int} {zs : List Z} {sp : List Value} {c : Nat} {hs : List Int} {hc2 : Nat} {hst : Stat} {x3 x4 : AObj} {z : Z} {k : Ch} (hz : zs[i]? = some z) (hsp : (flat zs ++ sp).length = c * 9) (hc : c < UNK) (hn : zs.length ≤ 1000) (hnx : 0 ≤ nx) (hep : 0 ≤ z.ep) (hal : ∀ m : Mem, m.alive hst = true) (hce : (hs.length == 0 && hc2 == UNK) = false) (hhn : hs.length ≤ 1000) :
    RunP ctx (cl (n + 3)) 39 b39 (initSlots [ptr 0 0, .int .i64 ((i : Nat) : Int), .agg ⟨k.cells⟩]) (mA v nx zs sp c hs hc2 hst x3 x4) (KPost v nx zs (.slice (some ⟨2, 0, none⟩) hs.length hc2) (some (.cells (ints hs) 1 hst)) (splitM nx zs i z k)) := by
  have hi : i < zs.length := (List.getElem?_eq_some_iff.1 hz).1
  rw [b39_eq]
  refine RunP.seq ?_
  refine RunP.region ?_
  refine OpsP.rest (by kernel_rfl) ?_
  refine RunP.seq ?_
  refine RunP.region ?_
  refine OpsP.take 6 (by kernel_rfl) ?_
  refine OpsP.stepAt hr39_1_0_6 (step_indexAddr (x := .tmp 15) (i := .tmp 16) (t := 28) (e := 39) (z := 9) (j := i) (n := zs.length) (c := c) (b := 1) (off := 0) (k := .i64) (iv := (((i : Nat) : Int))) (by kernel_rfl) (by kernel_rfl) (by kernel_rfl) (by kernel_rfl) (by kernel_rfl) (by kernel_rfl) rfl hi) ?_
  refine OpsP.rest (by kernel_rfl) ?_
  refine RunP.seq ?_
  refine RunP.plan plan39_2 (by kernel_rfl) (by kernel_rfl) ?_
  refine OpsP.take 3 (by kernel_rfl) ?_
  refine OpsP.stepAt hr39_2_0_1_2_3_4_5_11_12_0_3 (step_loadF (t := 37) (a := .tmp 21) (b := 1) (j := i) (f := 1) (n := 2) (ag := true) (st := .sole) (zs := zs) (rest := sp) (z := z) (v := .agg ⟨[.string z.lo, .string z.hi]⟩) (by kernel_rfl) (by kernel_rfl) (by kernel_rfl) (by kernel_rfl) (by kernel_rfl) rfl hz (by decide) (by kernel_rfl)) ?_
  refine OpsP.rest (by kernel_rfl) ?_
  refine ⟨(again_k (v := .agg ⟨[.string z.lo, .string z.hi]⟩) (d := 22) (by kernel_rfl) (by kernel_rfl) (prim_loadF (t := 37) (a := .tmp 21) (b := 1) (j := i) (f := 1) (n := 2) (ag := true) (st := .sole) (zs := zs) (rest := sp) (z := z) (v := .agg ⟨[.string z.lo, .string z.hi]⟩) (by kernel_rfl) (by kernel_rfl) (by kernel_rfl) (by kernel_rfl) rfl hz (by decide) (by kernel_rfl)) (by kernel_rfl) (by kernel_rfl) (veq_aggO (by kernel_rfl)) (again_k (v := .string k.key) (d := 24) (by kernel_rfl) (by kernel_rfl) (by kernel_rfl) (by kernel_rfl) (by kernel_rfl) (veq_string _) again_nil)), ?_⟩
  refine bool_by (cutB z.lo z.hi k.key) (fun q1 => ?_) fun q1 => ?_
  ·
    refine OpsP.stepAt hr39_2_6_7_8_9_10_0_0 (step_call (g := 75) (f := .func 75) (args := #[.tmp 22, .tmp 24]) (ats := #[37, 9]) (l := [.agg ⟨[.string z.lo, .string z.hi]⟩, .string k.key]) (by kernel_rfl) (by kernel_rfl) (by kernel_rfl) (by kernel_rfl) (call75_t q1)) ?_
    refine OpsP.rest (by kernel_rfl) ?_
    refine ⟨again_nil, ?_⟩
    refine OpsP.rest (by kernel_rfl) ?_
    refine ⟨again_nil, ?_⟩
    refine OpsP.rest (by kernel_rfl) ?_
    refine ⟨again_nil, ?_⟩
    refine OpsP.rest (by kernel_rfl) ?_
    refine ⟨again_nil, ?_⟩
    refine RunP.seq ?_
    refine RunP.seq ?_
    refine RunP.plan plan39_3 (by kernel_rfl) (by kernel_rfl) ?_
    refine OpsP.take 3 (by kernel_rfl) ?_
    refine OpsP.stepAt hr39_3_0_1_2_3_4_5_6_7_8_9_10_11_12_13_14_15_16_0_3 (step_loadF (t := 3) (a := .tmp 31) (b := 1) (j := i) (f := 5) (n := 1) (ag := false) (st := .sole) (zs := zs) (rest := sp) (z := z) (v := .int .i64 (z.pend)) (by kernel_rfl) (by kernel_rfl) (by kernel_rfl) (by kernel_rfl) (by kernel_rfl) rfl hz (by decide) (by kernel_rfl)) ?_
    refine OpsP.boolN 33 hr39_3_0_1_2_3_4_5_6_7_8_9_10_11_12_13_14_15_16_4_4 (by kernel_rfl) (decide (z.pend = 0)) (by kernel_rfl) (fun q2 => ?_) fun q2 => ?_
    ·
      refine OpsP.rest (by kernel_rfl) ?_
      refine ⟨(again_k (v := .int .i64 (z.pend)) (d := 32) (by kernel_rfl) (by kernel_rfl) (prim_loadF (t := 3) (a := .tmp 31) (b := 1) (j := i) (f := 5) (n := 1) (ag := false) (st := .sole) (zs := zs) (rest := sp) (z := z) (v := .int .i64 (z.pend)) (by kernel_rfl) (by kernel_rfl) (by kernel_rfl) (by kernel_rfl) rfl hz (by decide) (by kernel_rfl)) (by kernel_rfl) (by kernel_rfl) (veq_int _ _) (again_k (v := .slice (some ⟨1, 0, none⟩) zs.length c) (d := 43) (by kernel_rfl) (by kernel_rfl) (by kernel_rfl) (by kernel_rfl) (by kernel_rfl) (veq_slice (by kernel_rfl)) (again_k (v := .int .i64 (((zs.length : Nat) : Int))) (d := 44) (by kernel_rfl) (by kernel_rfl) (by kernel_rfl) (by kernel_rfl) (by kernel_rfl) (veq_int _ _) again_nil))), ?_⟩
      refine OpsP.stepAt hr39_3_17_18_19_20_21_22_23_24_25_26_27_28_0_0 (step_call (g := 76) (f := .func 76) (args := #[.tmp 45, .const (.int .i64 1)]) (ats := #[24, 3]) (l := [ptr 0 0, .int .i64 1]) (by kernel_rfl) (by kernel_rfl) (by kernel_rfl) (by kernel_rfl) (call76 (v := v) (nx := nx) (zs := zs) (c := c) (h := .slice (some ⟨2, 0, none⟩) hs.length hc2) (sp := sp) (by kernel_rfl) (by kernel_rfl) hc hn)) ?_
      refine OpsP.stepAt hr39_3_17_18_19_20_21_22_23_24_25_26_27_28_1_1 (step_add (t := 3) (w := 3) (x := .tmp 44) (y := .tmp 46) (k := .i64) (a := ((zs.length : Nat) : Int)) (b := ((cnt zs 1 : Nat) : Int)) (c := (((zs.length : Nat) : Int) + ((cnt zs 1 : Nat) : Int))) (by kernel_rfl) (by kernel_rfl) (by kernel_rfl) (by kernel_rfl) (wrap_len (by have := cnt_le zs 1; omega))) ?_
      refine OpsP.boolT 48 hr39_3_17_18_19_20_21_22_23_24_25_26_27_28_2_2 (by kernel_rfl) (decide (16 ≤ (((zs.length : Nat) : Int) + ((cnt zs 1 : Nat) : Int)))) (by kernel_rfl) (fun q3 => ?_) fun q3 => ?_
      ·
        refine OpsP.rest (by kernel_rfl) ?_
        refine ⟨(again_k (v := .slice (some ⟨1, 0, none⟩) zs.length c) (d := 43) (by kernel_rfl) (by kernel_rfl) (by kernel_rfl) (by kernel_rfl) (by kernel_rfl) (veq_slice (by kernel_rfl)) (again_k (v := .int .i64 (((zs.length : Nat) : Int))) (d := 44) (by kernel_rfl) (by kernel_rfl) (by kernel_rfl) (by kernel_rfl) (by kernel_rfl) (veq_int _ _) (again_skip (by kernel_rfl) (by kernel_rfl) again_nil))), ?_⟩
        refine RunP.cond (t := true) (by kernel_rfl) (fun _ => ?_) fun h => by cases h
        refine RunP.seq ?_
        refine RunP.region ?_
        refine OpsP.rest (by kernel_rfl) ?_
        refine RunP.ret ?_
        have hM : splitM nx zs i z k = none := by unfold splitM; simp only [q1, q2, q3] <;> rfl
        exact KPost.no hM rfl (by kernel_rfl) ⟨1, c, sp, by kernel_rfl, by kernel_rfl, .inl rfl, Nat.le_of_ble_eq_true (by kernel_rfl), by kernel_rfl, ⟨flat zs ++ sp, by kernel_rfl⟩, .inl ⟨hc, hsp.symm⟩⟩
      ·
        refine OpsP.take 7 (by kernel_rfl) ?_
        refine OpsP.boolT 56 hr39_3_17_18_19_20_21_22_23_24_25_26_27_28_3_10 (by kernel_rfl) (decide (1099511627776 ≤ nx)) (by kernel_rfl) (fun q4 => ?_) fun q4 => ?_
        ·
          refine OpsP.rest (by kernel_rfl) ?_
          refine ⟨(again_k (v := .slice (some ⟨1, 0, none⟩) zs.length c) (d := 43) (by kernel_rfl) (by kernel_rfl) (by kernel_rfl) (by kernel_rfl) (by kernel_rfl) (veq_slice (by kernel_rfl)) (again_k (v := .int .i64 (((zs.length : Nat) : Int))) (d := 44) (by kernel_rfl) (by kernel_rfl) (by kernel_rfl) (by kernel_rfl) (by kernel_rfl) (veq_int _ _) (again_k (v := .int .i64 (nx)) (d := 55) (by kernel_rfl) (by kernel_rfl) (by kernel_rfl) (by kernel_rfl) (by kernel_rfl) (veq_int _ _) again_nil))), ?_⟩
          refine RunP.cond (t := true) (by kernel_rfl) (fun _ => ?_) fun h => by cases h
          refine RunP.seq ?_
          refine RunP.region ?_
          refine OpsP.rest (by kernel_rfl) ?_
          refine RunP.ret ?_
          have hM : splitM nx zs i z k = none := by unfold splitM; simp only [q1, q2, q3, q4] <;> rfl
          exact KPost.no hM rfl (by kernel_rfl) ⟨1, c, sp, by kernel_rfl, by kernel_rfl, .inl rfl, Nat.le_of_ble_eq_true (by kernel_rfl), by kernel_rfl, ⟨flat zs ++ sp, by kernel_rfl⟩, .inl ⟨hc, hsp.symm⟩⟩
        ·
          refine OpsP.rest (by kernel_rfl) ?_
          refine ⟨(again_k (v := .slice (some ⟨1, 0, none⟩) zs.length c) (d := 43) (by kernel_rfl) (by kernel_rfl) (by kernel_rfl) (by kernel_rfl) (by kernel_rfl) (veq_slice (by kernel_rfl)) (again_k (v := .int .i64 (((zs.length : Nat) : Int))) (d := 44) (by kernel_rfl) (by kernel_rfl) (by kernel_rfl) (by kernel_rfl) (by kernel_rfl) (veq_int _ _) (again_k (v := .int .i64 (nx)) (d := 55) (by kernel_rfl) (by kernel_rfl) (by kernel_rfl) (by kernel_rfl) (by kernel_rfl) (veq_int _ _) again_nil))), ?_⟩
          refine RunP.cond (t := false) (by kernel_rfl) (fun h => by cases h) fun _ => ?_
          refine RunP.skip ?_
          refine RunP.seq ?_
          refine RunP.plan plan39_5 (by kernel_rfl) (by kernel_rfl) ?_
          refine OpsP.rest (by kernel_rfl) ?_
          refine ⟨(again_k (v := .string k.key) (d := 62) (by kernel_rfl) (by kernel_rfl) (by kernel_rfl) (by kernel_rfl) (by kernel_rfl) (veq_string _) (again_k (v := .int .i64 (nx)) (d := 67) (by kernel_rfl) (by kernel_rfl) (by kernel_rfl) (by kernel_rfl) (by kernel_rfl) (veq_int _ _) again_nil)), ?_⟩
          refine OpsP.stepAt hr39_5_12_13_14_0_0 (step_storeF (t := 3) (a := .tmp 69) (x := .const (.int .i64 1)) (b := 1) (j := i) (f := 5) (u := .int .i64 1) (zs := zs) (rest := sp) (z := z) (z' := { z with pend := 1 }) (by kernel_rfl) (by kernel_rfl) (by kernel_rfl) (by kernel_rfl) info3_eq (by kernel_rfl) (by kernel_rfl) (by kernel_rfl) hz (Nat.le_of_ble_eq_true (by kernel_rfl)) (by kernel_rfl) (by kernel_rfl)) ?_
          refine OpsP.rest (by kernel_rfl) ?_
          refine ⟨(again_k (v := .string k.key) (d := 62) (by kernel_rfl) (by kernel_rfl) (by kernel_rfl) (by kernel_rfl) (by kernel_rfl) (veq_string _) again_nil), ?_⟩
          refine OpsP.stepAt hr39_5_15_16_17_0_0 (step_storeF (t := 9) (a := .tmp 71) (x := .tmp 62) (b := 1) (j := i) (f := 7) (u := .string k.key) (zs := (zs.set i { z with pend := 1 })) (rest := sp) (z := { z with pend := 1 }) (z' := { z with pend := 1, key := k.key }) (by kernel_rfl) (by kernel_rfl) (by kernel_rfl) (by kernel_rfl) info9_eq (by kernel_rfl) (by kernel_rfl) (by kernel_rfl) (set_at hz) (Nat.le_of_ble_eq_true (by kernel_rfl)) (by kernel_rfl) (by kernel_rfl)) ?_
          refine OpsP.rest (by kernel_rfl) ?_
          refine ⟨again_nil, ?_⟩
          refine OpsP.stepAt hr39_5_18_0_0 (step_storeF (t := 3) (a := .tmp 73) (x := .tmp 67) (b := 1) (j := i) (f := 8) (u := .int .i64 (nx)) (zs := ((zs.set i { z with pend := 1 }).set i { z with pend := 1, key := k.key })) (rest := sp) (z := { z with pend := 1, key := k.key }) (z' := { z with pend := 1, key := k.key, new := nx }) (by kernel_rfl) (by kernel_rfl) (by kernel_rfl) (by kernel_rfl) info3_eq (by kernel_rfl) (by kernel_rfl) (by kernel_rfl) (set_at (set_at hz)) (Nat.le_of_ble_eq_true (by kernel_rfl)) (by kernel_rfl) (by kernel_rfl)) ?_
          refine OpsP.nil ?_
          refine ⟨again_nil, ?_⟩
          refine RunP.seq ?_
          refine RunP.region ?_
          refine OpsP.take 5 (by kernel_rfl) ?_
          refine OpsP.stepAt hr39_6_0_5 (step_add (t := 3) (w := 3) (x := .tmp 78) (y := .const (.int .i64 1)) (k := .i64) (a := nx) (b := 1) (c := (nx + 1)) (by kernel_rfl) (by kernel_rfl) (by kernel_rfl) (by kernel_rfl) (wrap_p1 hnx (by have := of_decide_eq_false q4; omega))) ?_
          refine OpsP.rest (by kernel_rfl) ?_
          refine RunP.seq ?_
          refine RunP.region ?_
          refine OpsP.rest (by kernel_rfl) ?_
          refine RunP.ret ?_
          have hM : splitM nx zs i z k = some (nx + 1, zs.set i { z with pend := 1, key := k.key, new := nx }) := by unfold splitM; simp only [q1, q2, q3, q4] <;> rfl
          exact KPost.yes hM rfl (by kernel_rfl) ⟨1, c, sp, Eq.trans (b := some (.cells (dirCells v ((nx + 1)) 1 zs.length c (.slice (some ⟨2, 0, none⟩) hs.length hc2)) 4 .sole)) (by kernel_rfl) (by simp), Eq.trans (b := some (.cells (flat (((zs.set i { z with pend := 1 }).set i { z with pend := 1, key := k.key }).set i { z with pend := 1, key := k.key, new := nx }) ++ sp) 9 .sole)) (by kernel_rfl) (by simp [List.set_set, Z.ended]), .inl rfl, Nat.le_of_ble_eq_true (by kernel_rfl), by kernel_rfl, ⟨flat (((zs.set i { z with pend := 1 }).set i { z with pend := 1, key := k.key }).set i { z with pend := 1, key := k.key, new := nx }) ++ sp, by kernel_rfl⟩, .inl ⟨hc, by simp [flat_length] at hsp ⊢; omega⟩⟩
    ·
      refine OpsP.rest (by kernel_rfl) ?_
      refine ⟨(again_k (v := .int .i64 (z.pend)) (d := 32) (by kernel_rfl) (by kernel_rfl) (prim_loadF (t := 3) (a := .tmp 31) (b := 1) (j := i) (f := 5) (n := 1) (ag := false) (st := .sole) (zs := zs) (rest := sp) (z := z) (v := .int .i64 (z.pend)) (by kernel_rfl) (by kernel_rfl) (by kernel_rfl) (by kernel_rfl) rfl hz (by decide) (by kernel_rfl)) (by kernel_rfl) (by kernel_rfl) (veq_int _ _) (again_skip (by kernel_rfl) (by kernel_rfl) (again_skip (by kernel_rfl) (by kernel_rfl) again_nil))), ?_⟩
      refine OpsP.rest (by kernel_rfl) ?_
      refine ⟨(again_skip (by kernel_rfl) (by kernel_rfl) (again_skip (by kernel_rfl) (by kernel_rfl) (again_skip (by kernel_rfl) (by kernel_rfl) again_nil))), ?_⟩
      refine RunP.cond (t := true) (by kernel_rfl) (fun _ => ?_) fun h => by cases h
      refine RunP.seq ?_
      refine RunP.region ?_
      refine OpsP.rest (by kernel_rfl) ?_
      refine RunP.ret ?_
      have hM : splitM nx zs i z k = none := by unfold splitM; simp only [q1, q2] <;> rfl
      exact KPost.no hM rfl (by kernel_rfl) ⟨1, c, sp, by kernel_rfl, by kernel_rfl, .inl rfl, Nat.le_of_ble_eq_true (by kernel_rfl), by kernel_rfl, ⟨flat zs ++ sp, by kernel_rfl⟩, .inl ⟨hc, hsp.symm⟩⟩
  ·
    refine OpsP.stepAt hr39_2_6_7_8_9_10_0_0 (step_call (g := 75) (f := .func 75) (args := #[.tmp 22, .tmp 24]) (ats := #[37, 9]) (l := [.agg ⟨[.string z.lo, .string z.hi]⟩, .string k.key]) (by kernel_rfl) (by kernel_rfl) (by kernel_rfl) (by kernel_rfl) (call75_f q1)) ?_
    refine OpsP.rest (by kernel_rfl) ?_
    refine ⟨again_nil, ?_⟩
    refine OpsP.rest (by kernel_rfl) ?_
    refine ⟨again_nil, ?_⟩
    refine OpsP.rest (by kernel_rfl) ?_
    refine ⟨again_nil, ?_⟩
    refine OpsP.rest (by kernel_rfl) ?_
    refine ⟨again_nil, ?_⟩
    refine RunP.seq ?_
    refine RunP.seq ?_
    refine RunP.plan plan39_3 (by kernel_rfl) (by kernel_rfl) ?_
    refine OpsP.take 3 (by kernel_rfl) ?_
    refine OpsP.stepAt hr39_3_0_1_2_3_4_5_6_7_8_9_10_11_12_13_14_15_16_0_3 (step_loadF (t := 3) (a := .tmp 31) (b := 1) (j := i) (f := 5) (n := 1) (ag := false) (st := .sole) (zs := zs) (rest := sp) (z := z) (v := .int .i64 (z.pend)) (by kernel_rfl) (by kernel_rfl) (by kernel_rfl) (by kernel_rfl) (by kernel_rfl) rfl hz (by decide) (by kernel_rfl)) ?_
    refine OpsP.boolN 33 hr39_3_0_1_2_3_4_5_6_7_8_9_10_11_12_13_14_15_16_4_4 (by kernel_rfl) (decide (z.pend = 0)) (by kernel_rfl) (fun q5 => ?_) fun q5 => ?_
    ·
      refine OpsP.rest (by kernel_rfl) ?_
      refine ⟨(again_k (v := .int .i64 (z.pend)) (d := 32) (by kernel_rfl) (by kernel_rfl) (prim_loadF (t := 3) (a := .tmp 31) (b := 1) (j := i) (f := 5) (n := 1) (ag := false) (st := .sole) (zs := zs) (rest := sp) (z := z) (v := .int .i64 (z.pend)) (by kernel_rfl) (by kernel_rfl) (by kernel_rfl) (by kernel_rfl) rfl hz (by decide) (by kernel_rfl)) (by kernel_rfl) (by kernel_rfl) (veq_int _ _) (again_skip (by kernel_rfl) (by kernel_rfl) (again_skip (by kernel_rfl) (by kernel_rfl) again_nil))), ?_⟩
      refine OpsP.rest (by kernel_rfl) ?_
      refine ⟨(again_skip (by kernel_rfl) (by kernel_rfl) (again_skip (by kernel_rfl) (by kernel_rfl) (again_skip (by kernel_rfl) (by kernel_rfl) again_nil))), ?_⟩
      refine RunP.cond (t := true) (by kernel_rfl) (fun _ => ?_) fun h => by cases h
      refine RunP.seq ?_
      refine RunP.region ?_
      refine OpsP.rest (by kernel_rfl) ?_
      refine RunP.ret ?_
      have hM : splitM nx zs i z k = none := by unfold splitM; simp only [q1, q5] <;> rfl
      exact KPost.no hM rfl (by kernel_rfl) ⟨1, c, sp, by kernel_rfl, by kernel_rfl, .inl rfl, Nat.le_of_ble_eq_true (by kernel_rfl), by kernel_rfl, ⟨flat zs ++ sp, by kernel_rfl⟩, .inl ⟨hc, hsp.symm⟩⟩
    ·
      refine OpsP.rest (by kernel_rfl) ?_
      refine ⟨(again_k (v := .int .i64 (z.pend)) (d := 32) (by kernel_rfl) (by kernel_rfl) (prim_loadF (t := 3) (a := .tmp 31) (b := 1) (j := i) (f := 5) (n := 1) (ag := false) (st := .sole) (zs := zs) (rest := sp) (z := z) (v := .int .i64 (z.pend)) (by kernel_rfl) (by kernel_rfl) (by kernel_rfl) (by kernel_rfl) rfl hz (by decide) (by kernel_rfl)) (by kernel_rfl) (by kernel_rfl) (veq_int _ _) (again_skip (by kernel_rfl) (by kernel_rfl) (again_skip (by kernel_rfl) (by kernel_rfl) again_nil))), ?_⟩
      refine OpsP.rest (by kernel_rfl) ?_
      refine ⟨(again_skip (by kernel_rfl) (by kernel_rfl) (again_skip (by kernel_rfl) (by kernel_rfl) (again_skip (by kernel_rfl) (by kernel_rfl) again_nil))), ?_⟩
      refine RunP.cond (t := true) (by kernel_rfl) (fun _ => ?_) fun h => by cases h
      refine RunP.seq ?_
      refine RunP.region ?_
      refine OpsP.rest (by kernel_rfl) ?_
      refine RunP.ret ?_
      have hM : splitM nx zs i z k = none := by unfold splitM; simp only [q1, q5] <;> rfl
      exact KPost.no hM rfl (by kernel_rfl) ⟨1, c, sp, by kernel_rfl, by kernel_rfl, .inl rfl, Nat.le_of_ble_eq_true (by kernel_rfl), by kernel_rfl, ⟨flat zs ++ sp, by kernel_rfl⟩, .inl ⟨hc, hsp.symm⟩⟩

noncomputable def b41 : Code := bodyOf Try.f41
theorem b41_body : Try.f41.body = some b41 := by kernel_rfl
noncomputable def r41_0 : Array Oper := rOps (sA (b41))
noncomputable def r41_1 : Array Oper := rOps (sA (sB (b41)))
noncomputable def r41_2 : Array Oper := rOps (sA (sA (sB (sB (b41)))))
noncomputable def r41_3 : Array Oper := rOps (sA (ifA (sB (sA (sB (sB (b41)))))))
noncomputable def r41_4 : Array Oper := rOps (sA (sB (sB (sB (b41)))))
noncomputable def r41_5 : Array Oper := rOps (sA (sB (sB (sB (sB (b41))))))
theorem b41_eq : b41 = .seq (.region 0 r41_0 false) (.seq (.region 1 r41_1 false) (.seq (.seq (.region 2 r41_2 true) (.cond (.tmp 43) (.seq (.region 3 r41_3 false) (.ret)) (.skip))) (.seq (.region 4 r41_4 true) (.seq (.region 5 r41_5 false) (.ret))))) := by kernel_rfl
theorem ret41 : Try.f41.results.toList = [.tmp 6] := by kernel_rfl
theorem hr41_1_0_6 : r41_1.toList.drop 6 = (r41_1.toList.drop 6).headD default :: r41_1.toList.drop 7 := by kernel_rfl
theorem plan41_2 : ctx.plans 41 2 = some ⟨[0, 1, 2, 3, 4, 5, 6, 7, 8, 9, 10, 11], [3, 9, 11], [⟨12, [13, 14, 15, 16, 17, 18, 19, 20, 21, 22, 23, 24, 25], [17, 21]⟩, ⟨26, [27, 28], []⟩]⟩ := by kernel_rfl
theorem hr41_2_0_1_2_3_4_5_6_7_8_9_10_11_0_3 : (opsAt r41_2 [0, 1, 2, 3, 4, 5, 6, 7, 8, 9, 10, 11]).drop 3 = ((opsAt r41_2 [0, 1, 2, 3, 4, 5, 6, 7, 8, 9, 10, 11]).drop 3).headD default :: (opsAt r41_2 [0, 1, 2, 3, 4, 5, 6, 7, 8, 9, 10, 11]).drop 4 := by kernel_rfl
theorem hr41_2_0_1_2_3_4_5_6_7_8_9_10_11_4_4 : ((opsAt r41_2 [0, 1, 2, 3, 4, 5, 6, 7, 8, 9, 10, 11]).drop 4) = (((opsAt r41_2 [0, 1, 2, 3, 4, 5, 6, 7, 8, 9, 10, 11]).drop 4)).headD default :: (opsAt r41_2 [0, 1, 2, 3, 4, 5, 6, 7, 8, 9, 10, 11]).drop 5 := by kernel_rfl
theorem hr41_2_12_13_14_15_16_17_18_19_20_21_22_23_24_25_0_0 : (opsAt r41_2 [12, 13, 14, 15, 16, 17, 18, 19, 20, 21, 22, 23, 24, 25]) = ((opsAt r41_2 [12, 13, 14, 15, 16, 17, 18, 19, 20, 21, 22, 23, 24, 25])).headD default :: (opsAt r41_2 [12, 13, 14, 15, 16, 17, 18, 19, 20, 21, 22, 23, 24, 25]).drop 1 := by kernel_rfl
theorem hr41_2_12_13_14_15_16_17_18_19_20_21_22_23_24_25_1_9 : ((opsAt r41_2 [12, 13, 14, 15, 16, 17, 18, 19, 20, 21, 22, 23, 24, 25]).drop 1).drop 8 = (((opsAt r41_2 [12, 13, 14, 15, 16, 17, 18, 19, 20, 21, 22, 23, 24, 25]).drop 1).drop 8).headD default :: (opsAt r41_2 [12, 13, 14, 15, 16, 17, 18, 19, 20, 21, 22, 23, 24, 25]).drop 10 := by kernel_rfl
theorem hr41_2_12_13_14_15_16_17_18_19_20_21_22_23_24_25_10_10 : ((opsAt r41_2 [12, 13, 14, 15, 16, 17, 18, 19, 20, 21, 22, 23, 24, 25]).drop 10) = (((opsAt r41_2 [12, 13, 14, 15, 16, 17, 18, 19, 20, 21, 22, 23, 24, 25]).drop 10)).headD default :: (opsAt r41_2 [12, 13, 14, 15, 16, 17, 18, 19, 20, 21, 22, 23, 24, 25]).drop 11 := by kernel_rfl
theorem hr41_2_26_27_28_0_0 : (opsAt r41_2 [26, 27, 28]) = ((opsAt r41_2 [26, 27, 28])).headD default :: (opsAt r41_2 [26, 27, 28]).drop 1 := by kernel_rfl
theorem hr41_2_26_27_28_1_1 : ((opsAt r41_2 [26, 27, 28]).drop 1) = (((opsAt r41_2 [26, 27, 28]).drop 1)).headD default :: (opsAt r41_2 [26, 27, 28]).drop 2 := by kernel_rfl
theorem plan41_4 : ctx.plans 41 4 = some ⟨[0, 1, 2, 3, 4, 5], [3], [⟨6, [7, 8], [3]⟩, ⟨9, [], []⟩]⟩ := by kernel_rfl
theorem hr41_4_6_7_8_0_0 : (opsAt r41_4 [6, 7, 8]) = ((opsAt r41_4 [6, 7, 8])).headD default :: (opsAt r41_4 [6, 7, 8]).drop 1 := by kernel_rfl
theorem hr41_4_9_0_0 : (opsAt r41_4 [9]) = ((opsAt r41_4 [9])).headD default :: (opsAt r41_4 [9]).drop 1 := by kernel_rfl
set_option maxRecDepth 100000 in
set_option maxHeartbeats 0 in
theorem move_run {n i : Nat} {v nx : Int} {zs : List Z} {sp : List Value} {c : Nat} {hs : List Int} {hc2 : Nat} {hst : Stat} {x3 x4 : AObj} {z : Z} {k : Ch} (hz : zs[i]? = some z) (hsp : (flat zs ++ sp).length = c * 9) (hc : c < UNK) (hn : zs.length ≤ 1000) (hnx : 0 ≤ nx) (hep : 0 ≤ z.ep) (hal : ∀ m : Mem, m.alive hst = true) (hce : (hs.length == 0 && hc2 == UNK) = false) (hhn : hs.length ≤ 1000) :
    RunP ctx (cl (n + 3)) 41 b41 (initSlots [ptr 0 0, .int .i64 ((i : Nat) : Int), .agg ⟨k.cells⟩]) (mA v nx zs sp c hs hc2 hst x3 x4) (KPost v nx zs (.slice (some ⟨2, 0, none⟩) hs.length hc2) (some (.cells (ints hs) 1 hst)) (moveM nx zs i z k hs)) := by
  have hi : i < zs.length := (List.getElem?_eq_some_iff.1 hz).1
  rw [b41_eq]
  refine RunP.seq ?_
  refine RunP.region ?_
  refine OpsP.rest (by kernel_rfl) ?_
  refine RunP.seq ?_
  refine RunP.region ?_
  refine OpsP.take 6 (by kernel_rfl) ?_
  refine OpsP.stepAt hr41_1_0_6 (step_indexAddr (x := .tmp 12) (i := .tmp 13) (t := 28) (e := 39) (z := 9) (j := i) (n := zs.length) (c := c) (b := 1) (off := 0) (k := .i64) (iv := (((i : Nat) : Int))) (by kernel_rfl) (by kernel_rfl) (by kernel_rfl) (by kernel_rfl) (by kernel_rfl) (by kernel_rfl) rfl hi) ?_
  refine OpsP.rest (by kernel_rfl) ?_
  refine RunP.seq ?_
  refine RunP.seq ?_
  refine RunP.plan plan41_2 (by kernel_rfl) (by kernel_rfl) ?_
  refine OpsP.take 3 (by kernel_rfl) ?_
  refine OpsP.stepAt hr41_2_0_1_2_3_4_5_6_7_8_9_10_11_0_3 (step_loadF (t := 3) (a := .tmp 17) (b := 1) (j := i) (f := 5) (n := 1) (ag := false) (st := .sole) (zs := zs) (rest := sp) (z := z) (v := .int .i64 (z.pend)) (by kernel_rfl) (by kernel_rfl) (by kernel_rfl) (by kernel_rfl) (by kernel_rfl) rfl hz (by decide) (by kernel_rfl)) ?_
  refine OpsP.boolN 19 hr41_2_0_1_2_3_4_5_6_7_8_9_10_11_4_4 (by kernel_rfl) (decide (z.pend = 0)) (by kernel_rfl) (fun q1 => ?_) fun q1 => ?_
  ·
    refine OpsP.rest (by kernel_rfl) ?_
    refine ⟨(again_k (v := .int .i64 (z.pend)) (d := 18) (by kernel_rfl) (by kernel_rfl) (prim_loadF (t := 3) (a := .tmp 17) (b := 1) (j := i) (f := 5) (n := 1) (ag := false) (st := .sole) (zs := zs) (rest := sp) (z := z) (v := .int .i64 (z.pend)) (by kernel_rfl) (by kernel_rfl) (by kernel_rfl) (by kernel_rfl) rfl hz (by decide) (by kernel_rfl)) (by kernel_rfl) (by kernel_rfl) (veq_int _ _) (again_k (v := .slice (some ⟨2, 0, none⟩) hs.length hc2) (d := 24) (by kernel_rfl) (by kernel_rfl) (by kernel_rfl) (by kernel_rfl) (by kernel_rfl) (veq_slice (by kernel_rfl)) (again_k (v := .int .i64 (k.to)) (d := 26) (by kernel_rfl) (by kernel_rfl) (by kernel_rfl) (by kernel_rfl) (by kernel_rfl) (veq_int _ _) again_nil))), ?_⟩
    refine bool_by (decide (0 ≤ findI hs k.to 0)) (fun q2 => ?_) fun q2 => ?_
    ·
      refine OpsP.stepAt hr41_2_12_13_14_15_16_17_18_19_20_21_22_23_24_25_0_0 (step_call (g := 77) (f := .func 77) (args := #[.tmp 24, .tmp 26]) (ats := #[43, 3]) (l := [.slice (some ⟨2, 0, none⟩) hs.length hc2, .int .i64 (k.to)]) (by kernel_rfl) (by kernel_rfl) (by kernel_rfl) (by kernel_rfl) (call77 (o := 2) (c := hc2) (l := hs) (st := hst) (x := k.to) (by kernel_rfl) hal hce hhn q2)) ?_
      refine OpsP.take 8 (by kernel_rfl) ?_
      refine OpsP.stepAt hr41_2_12_13_14_15_16_17_18_19_20_21_22_23_24_25_1_9 (step_loadF (t := 3) (a := .tmp 35) (b := 1) (j := i) (f := 3) (n := 1) (ag := false) (st := .sole) (zs := zs) (rest := sp) (z := z) (v := .int .i64 (z.own)) (by kernel_rfl) (by kernel_rfl) (by kernel_rfl) (by kernel_rfl) (by kernel_rfl) rfl hz (by decide) (by kernel_rfl)) ?_
      refine OpsP.boolT 37 hr41_2_12_13_14_15_16_17_18_19_20_21_22_23_24_25_10_10 (by kernel_rfl) (decide (k.to = z.own)) (by kernel_rfl) (fun q3 => ?_) fun q3 => ?_
      ·
        refine OpsP.rest (by kernel_rfl) ?_
        refine ⟨(again_k (v := .int .i64 (k.to)) (d := 32) (by kernel_rfl) (by kernel_rfl) (by kernel_rfl) (by kernel_rfl) (by kernel_rfl) (veq_int _ _) (again_k (v := .int .i64 (z.own)) (d := 36) (by kernel_rfl) (by kernel_rfl) (prim_loadF (t := 3) (a := .tmp 35) (b := 1) (j := i) (f := 3) (n := 1) (ag := false) (st := .sole) (zs := zs) (rest := sp) (z := z) (v := .int .i64 (z.own)) (by kernel_rfl) (by kernel_rfl) (by kernel_rfl) (by kernel_rfl) rfl hz (by decide) (by kernel_rfl)) (by kernel_rfl) (by kernel_rfl) (veq_int _ _) again_nil)), ?_⟩
        refine OpsP.rest (by kernel_rfl) ?_
        refine ⟨again_nil, ?_⟩
        refine RunP.cond (t := true) (by kernel_rfl) (fun _ => ?_) fun h => by cases h
        refine RunP.seq ?_
        refine RunP.region ?_
        refine OpsP.rest (by kernel_rfl) ?_
        refine RunP.ret ?_
        have hM : moveM nx zs i z k hs = none := by unfold moveM; simp only [q1, q2, q3] <;> rfl
        exact KPost.no hM rfl (by kernel_rfl) ⟨1, c, sp, by kernel_rfl, by kernel_rfl, .inl rfl, Nat.le_of_ble_eq_true (by kernel_rfl), by kernel_rfl, ⟨flat zs ++ sp, by kernel_rfl⟩, .inl ⟨hc, hsp.symm⟩⟩
      ·
        refine OpsP.rest (by kernel_rfl) ?_
        refine ⟨(again_k (v := .int .i64 (k.to)) (d := 32) (by kernel_rfl) (by kernel_rfl) (by kernel_rfl) (by kernel_rfl) (by kernel_rfl) (veq_int _ _) (again_k (v := .int .i64 (z.own)) (d := 36) (by kernel_rfl) (by kernel_rfl) (prim_loadF (t := 3) (a := .tmp 35) (b := 1) (j := i) (f := 3) (n := 1) (ag := false) (st := .sole) (zs := zs) (rest := sp) (z := z) (v := .int .i64 (z.own)) (by kernel_rfl) (by kernel_rfl) (by kernel_rfl) (by kernel_rfl) rfl hz (by decide) (by kernel_rfl)) (by kernel_rfl) (by kernel_rfl) (veq_int _ _) again_nil)), ?_⟩
        refine OpsP.stepAt hr41_2_26_27_28_0_0 (step_call (g := 76) (f := .func 76) (args := #[.tmp 40, .const (.int .i64 3)]) (ats := #[24, 3]) (l := [ptr 0 0, .int .i64 3]) (by kernel_rfl) (by kernel_rfl) (by kernel_rfl) (by kernel_rfl) (call76 (v := v) (nx := nx) (zs := zs) (c := c) (h := .slice (some ⟨2, 0, none⟩) hs.length hc2) (sp := sp) (by kernel_rfl) (by kernel_rfl) hc hn)) ?_
        refine OpsP.boolT 42 hr41_2_26_27_28_1_1 (by kernel_rfl) (decide (2 ≤ ((cnt zs 3 : Nat) : Int))) (by kernel_rfl) (fun q4 => ?_) fun q4 => ?_
        ·
          refine OpsP.rest (by kernel_rfl) ?_
          refine ⟨again_nil, ?_⟩
          refine RunP.cond (t := true) (by kernel_rfl) (fun _ => ?_) fun h => by cases h
          refine RunP.seq ?_
          refine RunP.region ?_
          refine OpsP.rest (by kernel_rfl) ?_
          refine RunP.ret ?_
          have hM : moveM nx zs i z k hs = none := by unfold moveM; simp only [q1, q2, q3, q4] <;> rfl
          exact KPost.no hM rfl (by kernel_rfl) ⟨1, c, sp, by kernel_rfl, by kernel_rfl, .inl rfl, Nat.le_of_ble_eq_true (by kernel_rfl), by kernel_rfl, ⟨flat zs ++ sp, by kernel_rfl⟩, .inl ⟨hc, hsp.symm⟩⟩
        ·
          refine OpsP.rest (by kernel_rfl) ?_
          refine ⟨again_nil, ?_⟩
          refine RunP.cond (t := false) (by kernel_rfl) (fun h => by cases h) fun _ => ?_
          refine RunP.skip ?_
          refine RunP.seq ?_
          refine RunP.plan plan41_4 (by kernel_rfl) (by kernel_rfl) ?_
          refine OpsP.rest (by kernel_rfl) ?_
          refine ⟨(again_k (v := .int .i64 (k.to)) (d := 47) (by kernel_rfl) (by kernel_rfl) (by kernel_rfl) (by kernel_rfl) (by kernel_rfl) (veq_int _ _) again_nil), ?_⟩
          refine OpsP.stepAt hr41_4_6_7_8_0_0 (step_storeF (t := 3) (a := .tmp 49) (x := .const (.int .i64 3)) (b := 1) (j := i) (f := 5) (u := .int .i64 3) (zs := zs) (rest := sp) (z := z) (z' := { z with pend := 3 }) (by kernel_rfl) (by kernel_rfl) (by kernel_rfl) (by kernel_rfl) info3_eq (by kernel_rfl) (by kernel_rfl) (by kernel_rfl) hz (Nat.le_of_ble_eq_true (by kernel_rfl)) (by kernel_rfl) (by kernel_rfl)) ?_
          refine OpsP.rest (by kernel_rfl) ?_
          refine ⟨(again_k (v := .int .i64 (k.to)) (d := 47) (by kernel_rfl) (by kernel_rfl) (by kernel_rfl) (by kernel_rfl) (by kernel_rfl) (veq_int _ _) again_nil), ?_⟩
          refine OpsP.stepAt hr41_4_9_0_0 (step_storeF (t := 3) (a := .tmp 51) (x := .tmp 47) (b := 1) (j := i) (f := 6) (u := .int .i64 (k.to)) (zs := (zs.set i { z with pend := 3 })) (rest := sp) (z := { z with pend := 3 }) (z' := { z with pend := 3, to := k.to }) (by kernel_rfl) (by kernel_rfl) (by kernel_rfl) (by kernel_rfl) info3_eq (by kernel_rfl) (by kernel_rfl) (by kernel_rfl) (set_at hz) (Nat.le_of_ble_eq_true (by kernel_rfl)) (by kernel_rfl) (by kernel_rfl)) ?_
          refine OpsP.nil ?_
          refine ⟨again_nil, ?_⟩
          refine RunP.seq ?_
          refine RunP.region ?_
          refine OpsP.rest (by kernel_rfl) ?_
          refine RunP.ret ?_
          have hM : moveM nx zs i z k hs = some (nx, zs.set i { z with pend := 3, to := k.to }) := by unfold moveM; simp only [q1, q2, q3, q4] <;> rfl
          exact KPost.yes hM rfl (by kernel_rfl) ⟨1, c, sp, Eq.trans (b := some (.cells (dirCells v (nx) 1 zs.length c (.slice (some ⟨2, 0, none⟩) hs.length hc2)) 4 .sole)) (by kernel_rfl) (by simp), Eq.trans (b := some (.cells (flat ((zs.set i { z with pend := 3 }).set i { z with pend := 3, to := k.to }) ++ sp) 9 .sole)) (by kernel_rfl) (by simp [List.set_set, Z.ended]), .inl rfl, Nat.le_of_ble_eq_true (by kernel_rfl), by kernel_rfl, ⟨flat ((zs.set i { z with pend := 3 }).set i { z with pend := 3, to := k.to }) ++ sp, by kernel_rfl⟩, .inl ⟨hc, by simp [flat_length] at hsp ⊢; omega⟩⟩
    ·
      refine OpsP.stepAt hr41_2_12_13_14_15_16_17_18_19_20_21_22_23_24_25_0_0 (step_call (g := 77) (f := .func 77) (args := #[.tmp 24, .tmp 26]) (ats := #[43, 3]) (l := [.slice (some ⟨2, 0, none⟩) hs.length hc2, .int .i64 (k.to)]) (by kernel_rfl) (by kernel_rfl) (by kernel_rfl) (by kernel_rfl) (call77 (o := 2) (c := hc2) (l := hs) (st := hst) (x := k.to) (by kernel_rfl) hal hce hhn q2)) ?_
      refine OpsP.rest (by kernel_rfl) ?_
      refine ⟨(again_skip (by kernel_rfl) (by kernel_rfl) (again_skip (by kernel_rfl) (by kernel_rfl) again_nil)), ?_⟩
      refine OpsP.rest (by kernel_rfl) ?_
      refine ⟨again_nil, ?_⟩
      refine RunP.cond (t := true) (by kernel_rfl) (fun _ => ?_) fun h => by cases h
      refine RunP.seq ?_
      refine RunP.region ?_
      refine OpsP.rest (by kernel_rfl) ?_
      refine RunP.ret ?_
      have hM : moveM nx zs i z k hs = none := by unfold moveM; simp only [q1, q2] <;> rfl
      exact KPost.no hM rfl (by kernel_rfl) ⟨1, c, sp, by kernel_rfl, by kernel_rfl, .inl rfl, Nat.le_of_ble_eq_true (by kernel_rfl), by kernel_rfl, ⟨flat zs ++ sp, by kernel_rfl⟩, .inl ⟨hc, hsp.symm⟩⟩
  ·
    refine OpsP.rest (by kernel_rfl) ?_
    refine ⟨(again_k (v := .int .i64 (z.pend)) (d := 18) (by kernel_rfl) (by kernel_rfl) (prim_loadF (t := 3) (a := .tmp 17) (b := 1) (j := i) (f := 5) (n := 1) (ag := false) (st := .sole) (zs := zs) (rest := sp) (z := z) (v := .int .i64 (z.pend)) (by kernel_rfl) (by kernel_rfl) (by kernel_rfl) (by kernel_rfl) rfl hz (by decide) (by kernel_rfl)) (by kernel_rfl) (by kernel_rfl) (veq_int _ _) (again_skip (by kernel_rfl) (by kernel_rfl) (again_skip (by kernel_rfl) (by kernel_rfl) again_nil))), ?_⟩
    refine OpsP.rest (by kernel_rfl) ?_
    refine ⟨(again_skip (by kernel_rfl) (by kernel_rfl) (again_skip (by kernel_rfl) (by kernel_rfl) again_nil)), ?_⟩
    refine OpsP.rest (by kernel_rfl) ?_
    refine ⟨again_nil, ?_⟩
    refine RunP.cond (t := true) (by kernel_rfl) (fun _ => ?_) fun h => by cases h
    refine RunP.seq ?_
    refine RunP.region ?_
    refine OpsP.rest (by kernel_rfl) ?_
    refine RunP.ret ?_
    have hM : moveM nx zs i z k hs = none := by unfold moveM; simp only [q1] <;> rfl
    exact KPost.no hM rfl (by kernel_rfl) ⟨1, c, sp, by kernel_rfl, by kernel_rfl, .inl rfl, Nat.le_of_ble_eq_true (by kernel_rfl), by kernel_rfl, ⟨flat zs ++ sp, by kernel_rfl⟩, .inl ⟨hc, hsp.symm⟩⟩

noncomputable def b43 : Code := bodyOf Try.f43
theorem b43_body : Try.f43.body = some b43 := by kernel_rfl
noncomputable def r43_0 : Array Oper := rOps (sA (b43))
noncomputable def r43_1 : Array Oper := rOps (sA (sB (b43)))
noncomputable def r43_2 : Array Oper := rOps (sA (sA (sB (sB (b43)))))
noncomputable def r43_3 : Array Oper := rOps (sA (ifA (sB (sA (sB (sB (b43)))))))
noncomputable def r43_4 : Array Oper := rOps (sA (sB (sB (sB (b43)))))
noncomputable def r43_5 : Array Oper := rOps (sA (sB (sB (sB (sB (b43))))))
theorem b43_eq : b43 = .seq (.region 0 r43_0 false) (.seq (.region 1 r43_1 false) (.seq (.seq (.region 2 r43_2 false) (.cond (.tmp 30) (.seq (.region 3 r43_3 false) (.ret)) (.skip))) (.seq (.region 4 r43_4 true) (.seq (.region 5 r43_5 false) (.ret))))) := by kernel_rfl
theorem ret43 : Try.f43.results.toList = [.tmp 6] := by kernel_rfl
theorem hr43_1_0_6 : r43_1.toList.drop 6 = (r43_1.toList.drop 6).headD default :: r43_1.toList.drop 7 := by kernel_rfl
theorem hr43_1_7_7 : (r43_1.toList.drop 7) = ((r43_1.toList.drop 7)).headD default :: r43_1.toList.drop 8 := by kernel_rfl
theorem hr43_2_0_2 : r43_2.toList.drop 2 = (r43_2.toList.drop 2).headD default :: r43_2.toList.drop 3 := by kernel_rfl
theorem hr43_2_3_8 : (r43_2.toList.drop 3).drop 5 = ((r43_2.toList.drop 3).drop 5).headD default :: r43_2.toList.drop 9 := by kernel_rfl
theorem hr43_2_9_13 : (r43_2.toList.drop 9).drop 4 = ((r43_2.toList.drop 9).drop 4).headD default :: r43_2.toList.drop 14 := by kernel_rfl
theorem plan43_4 : ctx.plans 43 4 = some ⟨[0, 1, 2, 3, 4, 5, 6, 7, 8, 9], [4, 6, 8], [⟨10, [11], [4]⟩, ⟨12, [], []⟩]⟩ := by kernel_rfl
theorem hr43_4_0_1_2_3_4_5_6_7_8_9_0_9 : (opsAt r43_4 [0, 1, 2, 3, 4, 5, 6, 7, 8, 9]).drop 9 = ((opsAt r43_4 [0, 1, 2, 3, 4, 5, 6, 7, 8, 9]).drop 9).headD default :: (opsAt r43_4 [0, 1, 2, 3, 4, 5, 6, 7, 8, 9]).drop 10 := by kernel_rfl
theorem hr43_4_10_11_0_1 : (opsAt r43_4 [10, 11]).drop 1 = ((opsAt r43_4 [10, 11]).drop 1).headD default :: (opsAt r43_4 [10, 11]).drop 2 := by kernel_rfl
theorem hr43_4_12_0_0 : (opsAt r43_4 [12]) = ((opsAt r43_4 [12])).headD default :: (opsAt r43_4 [12]).drop 1 := by kernel_rfl
set_option maxRecDepth 100000 in
set_option maxHeartbeats 0 in
theorem abort_run {n i : Nat} {v nx : Int} {zs : List Z} {sp : List Value} {c : Nat} {hs : List Int} {hc2 : Nat} {hst : Stat} {x3 x4 : AObj} {z : Z} {k : Ch} (hz : zs[i]? = some z) (hsp : (flat zs ++ sp).length = c * 9) (hc : c < UNK) (hn : zs.length ≤ 1000) (hnx : 0 ≤ nx) (hep : 0 ≤ z.ep) (hal : ∀ m : Mem, m.alive hst = true) (hce : (hs.length == 0 && hc2 == UNK) = false) (hhn : hs.length ≤ 1000) :
    RunP ctx (cl (n + 3)) 43 b43 (initSlots [ptr 0 0, .int .i64 ((i : Nat) : Int), .agg ⟨k.cells⟩]) (mA v nx zs sp c hs hc2 hst x3 x4) (KPost v nx zs (.slice (some ⟨2, 0, none⟩) hs.length hc2) (some (.cells (ints hs) 1 hst)) (abortM nx zs i z k)) := by
  have hi : i < zs.length := (List.getElem?_eq_some_iff.1 hz).1
  rw [b43_eq]
  refine RunP.seq ?_
  refine RunP.region ?_
  refine OpsP.rest (by kernel_rfl) ?_
  refine RunP.seq ?_
  refine RunP.region ?_
  refine OpsP.take 6 (by kernel_rfl) ?_
  refine OpsP.stepAt hr43_1_0_6 (step_indexAddr (x := .tmp 12) (i := .tmp 13) (t := 28) (e := 39) (z := 9) (j := i) (n := zs.length) (c := c) (b := 1) (off := 0) (k := .i64) (iv := (((i : Nat) : Int))) (by kernel_rfl) (by kernel_rfl) (by kernel_rfl) (by kernel_rfl) (by kernel_rfl) (by kernel_rfl) rfl hi) ?_
  refine OpsP.stepAt hr43_1_7_7 (step_loadF (t := 39) (a := .tmp 14) (b := 1) (j := i) (f := 0) (n := 9) (ag := true) (st := .sole) (zs := zs) (rest := sp) (z := z) (v := .agg ⟨(z : Z).cells⟩) (by kernel_rfl) (by kernel_rfl) (by kernel_rfl) (by kernel_rfl) (by kernel_rfl) rfl hz (by decide) (by kernel_rfl)) ?_
  refine OpsP.rest (by kernel_rfl) ?_
  refine RunP.seq ?_
  refine RunP.seq ?_
  refine RunP.region ?_
  refine OpsP.take 2 (by kernel_rfl) ?_
  refine OpsP.boolN 18 hr43_2_0_2 (by kernel_rfl) (decide (z.pend = 3)) (by kernel_rfl) (fun q1 => ?_) fun q1 => ?_
  ·
    refine OpsP.take 5 (by kernel_rfl) ?_
    refine OpsP.boolN 24 hr43_2_3_8 (by kernel_rfl) (decide (z.ep = k.ep)) (by kernel_rfl) (fun q2 => ?_) fun q2 => ?_
    ·
      refine OpsP.take 4 (by kernel_rfl) ?_
      refine OpsP.boolT 29 hr43_2_9_13 (by kernel_rfl) (decide (1099511627776 ≤ z.ep)) (by kernel_rfl) (fun q3 => ?_) fun q3 => ?_
      ·
        refine OpsP.rest (by kernel_rfl) ?_
        refine RunP.cond (t := true) (by kernel_rfl) (fun _ => ?_) fun h => by cases h
        refine RunP.seq ?_
        refine RunP.region ?_
        refine OpsP.rest (by kernel_rfl) ?_
        refine RunP.ret ?_
        have hM : abortM nx zs i z k = none := by unfold abortM; simp only [q1, q2, q3] <;> rfl
        exact KPost.no hM rfl (by kernel_rfl) ⟨1, c, sp, by kernel_rfl, by kernel_rfl, .inl rfl, Nat.le_of_ble_eq_true (by kernel_rfl), by kernel_rfl, ⟨flat zs ++ sp, by kernel_rfl⟩, .inl ⟨hc, hsp.symm⟩⟩
      ·
        refine OpsP.rest (by kernel_rfl) ?_
        refine RunP.cond (t := false) (by kernel_rfl) (fun h => by cases h) fun _ => ?_
        refine RunP.skip ?_
        refine RunP.seq ?_
        refine RunP.plan plan43_4 (by kernel_rfl) (by kernel_rfl) ?_
        refine OpsP.take 9 (by kernel_rfl) ?_
        refine OpsP.stepAt hr43_4_0_1_2_3_4_5_6_7_8_9_0_9 (step_add (t := 3) (w := 3) (x := .tmp 39) (y := .const (.int .i64 1)) (k := .i64) (a := z.ep) (b := 1) (c := (z.ep + 1)) (by kernel_rfl) (by kernel_rfl) (by kernel_rfl) (by kernel_rfl) (wrap_p1 hep (by have := of_decide_eq_false q3; omega))) ?_
        refine OpsP.nil ?_
        refine ⟨(again_k (v := .slice (some ⟨1, 0, none⟩) zs.length c) (d := 35) (by kernel_rfl) (by kernel_rfl) (by kernel_rfl) (by kernel_rfl) (by kernel_rfl) (veq_slice (by kernel_rfl)) (again_k (v := .agg ⟨[.int .i64 (z.id), .string z.lo, .string z.hi, .int .i64 (z.own), .int .i64 (z.ep), .int .i64 (z.pend), .int .i64 (z.to), .string z.key, .int .i64 (z.new)]⟩) (d := 37) (by kernel_rfl) (by kernel_rfl) (by kernel_rfl) (by kernel_rfl) (by kernel_rfl) (veq_aggO (by kernel_rfl)) (again_k (v := .int .i64 (z.ep)) (d := 39) (by kernel_rfl) (by kernel_rfl) (by kernel_rfl) (by kernel_rfl) (by kernel_rfl) (veq_int _ _) again_nil))), ?_⟩
        refine OpsP.take 1 (by kernel_rfl) ?_
        refine OpsP.stepAt hr43_4_10_11_0_1 (step_indexAddr (x := .tmp 35) (i := .tmp 36) (t := 28) (e := 39) (z := 9) (j := i) (n := zs.length) (c := c) (b := 1) (off := 0) (k := .i64) (iv := (((i : Nat) : Int))) (by kernel_rfl) (by kernel_rfl) (by kernel_rfl) (by kernel_rfl) (by kernel_rfl) (by kernel_rfl) rfl hi) ?_
        refine OpsP.nil ?_
        refine ⟨(again_k (v := .slice (some ⟨1, 0, none⟩) zs.length c) (d := 35) (by kernel_rfl) (by kernel_rfl) (by kernel_rfl) (by kernel_rfl) (by kernel_rfl) (veq_slice (by kernel_rfl)) again_nil), ?_⟩
        refine OpsP.stepAt hr43_4_12_0_0 (step_storeF (t := 39) (a := .tmp 42) (x := .tmp 41) (b := 1) (j := i) (f := 0) (u := .agg ⟨({ z with ep := (z.ep + 1), pend := 0, to := 0, key := nilS, new := 0 } : Z).cells⟩) (zs := zs) (rest := sp) (z := z) (z' := { z with ep := (z.ep + 1), pend := 0, to := 0, key := nilS, new := 0 }) (by kernel_rfl) (by kernel_rfl) (by kernel_rfl) (by kernel_rfl) info39_eq (by kernel_rfl) (by kernel_rfl) (by kernel_rfl) hz (Nat.le_of_ble_eq_true (by kernel_rfl)) (by kernel_rfl) (by kernel_rfl)) ?_
        refine OpsP.nil ?_
        refine ⟨again_nil, ?_⟩
        refine RunP.seq ?_
        refine RunP.region ?_
        refine OpsP.rest (by kernel_rfl) ?_
        refine RunP.ret ?_
        have hM : abortM nx zs i z k = some (nx, zs.set i (z.ended (z.ep + 1))) := by unfold abortM; simp only [q1, q2, q3] <;> rfl
        exact KPost.yes hM rfl (by kernel_rfl) ⟨1, c, sp, Eq.trans (b := some (.cells (dirCells v (nx) 1 zs.length c (.slice (some ⟨2, 0, none⟩) hs.length hc2)) 4 .sole)) (by kernel_rfl) (by simp), Eq.trans (b := some (.cells (flat (zs.set i { z with ep := (z.ep + 1), pend := 0, to := 0, key := nilS, new := 0 }) ++ sp) 9 .sole)) (by kernel_rfl) (by simp [List.set_set, Z.ended]), .inl rfl, Nat.le_of_ble_eq_true (by kernel_rfl), by kernel_rfl, ⟨flat (zs.set i { z with ep := (z.ep + 1), pend := 0, to := 0, key := nilS, new := 0 }) ++ sp, by kernel_rfl⟩, .inl ⟨hc, by simp [flat_length] at hsp ⊢; omega⟩⟩
    ·
      refine OpsP.rest (by kernel_rfl) ?_
      refine RunP.cond (t := true) (by kernel_rfl) (fun _ => ?_) fun h => by cases h
      refine RunP.seq ?_
      refine RunP.region ?_
      refine OpsP.rest (by kernel_rfl) ?_
      refine RunP.ret ?_
      have hM : abortM nx zs i z k = none := by unfold abortM; simp only [q1, q2] <;> rfl
      exact KPost.no hM rfl (by kernel_rfl) ⟨1, c, sp, by kernel_rfl, by kernel_rfl, .inl rfl, Nat.le_of_ble_eq_true (by kernel_rfl), by kernel_rfl, ⟨flat zs ++ sp, by kernel_rfl⟩, .inl ⟨hc, hsp.symm⟩⟩
  ·
    refine OpsP.rest (by kernel_rfl) ?_
    refine RunP.cond (t := true) (by kernel_rfl) (fun _ => ?_) fun h => by cases h
    refine RunP.seq ?_
    refine RunP.region ?_
    refine OpsP.rest (by kernel_rfl) ?_
    refine RunP.ret ?_
    have hM : abortM nx zs i z k = none := by unfold abortM; simp only [q1] <;> rfl
    exact KPost.no hM rfl (by kernel_rfl) ⟨1, c, sp, by kernel_rfl, by kernel_rfl, .inl rfl, Nat.le_of_ble_eq_true (by kernel_rfl), by kernel_rfl, ⟨flat zs ++ sp, by kernel_rfl⟩, .inl ⟨hc, hsp.symm⟩⟩

end Go.Ev.Dir

namespace Go.Ev.Dir
open Go.Ev Go.Proofs
set_option linter.unusedSectionVars false
set_option linter.unusedVariables false
set_option linter.unusedSimpArgs false

def mx (a b : Int) : Int := bif decide (b > a) then b else a
theorem mx_nonneg {a b : Int} (h : 0 ≤ a) : 0 ≤ mx a b := by
  unfold mx
  cases hb : decide (b > a) with
  | true => have := of_decide_eq_true hb; simp only [cond_true]; omega
  | false => exact h
noncomputable def info28 : TypeInfo := (ctx.info 28).getD default
theorem info28_eq : ctx.info 28 = some info28 := by kernel_rfl

variable [Atoms]

theorem step_max {call : CallF} {ops : Array Oper} {s : Slots} {m : Mem} {o : Oper} {ts : Array TypeId} {x y : Operand} {k : IntKind} {a b : Int} (hw : wanted ops s o = some true) (ho : o.op = .call { callee := .builtin .max, args := #[x, y], argTypes := ts }) (hx : s.eval x = .int k a) (hy : s.eval y = .int k b) :
    stepOp ctx call ops o s m = some (s.put o.dst (.int k (mx a b)), m) := by
  obtain ⟨dst, op, type, pos, after, guard⟩ := o
  simp only at ho
  subst ho
  unfold stepOp
  simp only [hw, Option.bind_some, cond_true, oper, prim, builtinA, List.map_cons, List.map_nil, hx, hy, minmax, List.foldl_cons, List.foldl_nil, minmax2, decide_true, pure1, mx]

def mergeM (nx : Int) (zs : List Z) (i : Nat) (z : Z) : Option (Int × List Z) := match zs[i + 1]? with
  | none => none
  | some y => bif !decide (((zs.length : Nat) : Int) ≤ ((i + 1 : Nat) : Int)) && (decide (z.pend = 0) && (decide (y.pend = 0) && decide (z.own = y.own))) then some (nx, (zs.set i { z with pend := 2, new := y.id }).set (i + 1) { y with pend := 2, new := z.id }) else none

def insL (l : List Z) (i : Nat) (b : Z) : List Z := l.take (i + 1) ++ b :: l.drop (i + 1)
def delL (l : List Z) (i : Nat) : List Z := l.take (i + 1) ++ l.drop (i + 1 + 1)
def doneS (nx : Int) (zs : List Z) (i : Nat) (z : Z) : Option (Int × List Z) :=
  bif decide (16 ≤ ((zs.length : Nat) : Int)) then none else
  bif cutB z.lo z.hi z.key then some (nx, insL (zs.set i { z.ended (z.ep + 1) with hi := z.key }) i { z.ended (z.ep + 1) with id := z.new, lo := z.key })
  else some (nx, insL (zs.set i { z.ended (z.ep + 1) with lo := nilS, hi := nilS }) i { z.ended (z.ep + 1) with id := z.new, lo := nilS, hi := nilS })
def doneG (nx : Int) (zs : List Z) (i : Nat) (z : Z) : Option (Int × List Z) := match zs[i + 1]? with
  | none => none
  | some y => bif !decide (((zs.length : Nat) : Int) ≤ ((i + 1 : Nat) : Int)) && (decide (y.id = z.new) && !decide (1099511627776 ≤ mx z.ep y.ep)) then
      (bif joinB z.lo z.hi y.lo y.hi then some (nx, delL (zs.set i { z.ended (mx z.ep y.ep + 1) with hi := y.hi }) i)
      else some (nx, delL (zs.set i { z.ended (mx z.ep y.ep + 1) with lo := nilS, hi := nilS }) i)) else none
def doneM (nx : Int) (zs : List Z) (i : Nat) (z : Z) (k : Ch) : Option (Int × List Z) :=
  bif !decide (z.pend = 0) && (decide (z.ep = k.ep) && !decide (1099511627776 ≤ z.ep)) then
    (bif decide (z.pend = 1) then doneS nx zs i z else bif decide (z.pend = 2) then doneG nx zs i z else some (nx, zs.set i { z.ended (z.ep + 1) with own := z.to })) else none

theorem insert_call {k z v c i n : Nat} {M : Mem} {zs : List Z} {b : Z} {sp : List Value} (hz : M.get z = some (.cells (flat zs ++ sp) 9 .sole)) (hv : M.get v = some (.cells b.cells 9 .sole)) (hzv : z ≠ v) (hzn : z < M.next) (hvn : v < M.next)
    (hsp : (flat zs ++ sp).length = c * 9) (hc : c < UNK) (hnn : zs.length = n) (hn : n ≤ 1000) (hi : i ≤ n) :
    ∃ u m', cl (k + 2) 79 [.slice (some ⟨z, 0, none⟩) n c, .int .i64 i, .slice (some ⟨v, 0, none⟩) 1 1] M = some (u, m') ∧ InsPost M z (zs.take i ++ b :: zs.drop i) (n + 1) u m' := by
  rw [cl_fun (fn := Try.f79) (by kernel_rfl) (by kernel_rfl)]
  exact runFn_of (C := ctx) (call := cl (k + 1)) (fid := 79) (fn := Try.f79) (R := fun u m' => InsPost M z (zs.take i ++ b :: zs.drop i) (n + 1) u m') b79_body (by kernel_rfl)
    (RunP.mono (insert_run (fun args m => cl_told (g := toldR T104) rfl k args m) hz hv hzv hzn hvn hsp hc hnn hn hi) fun e s m1 ⟨h1, h2⟩ => ⟨fun id q => (by rw [h1] at q; cases q), [s.get 6], by rw [ret79]; rfl, h2⟩)

theorem delete_call {k z c i n : Nat} {M : Mem} {zs : List Z} {sp : List Value} (hz : M.get z = some (.cells (flat zs ++ sp) 9 .sole)) (hsp : (flat zs ++ sp).length = c * 9) (hc : c < UNK) (hnn : zs.length = n) (hn : n ≤ 1000) (hi : i < n) :
    ∃ u m', cl (k + 2) 81 [.slice (some ⟨z, 0, none⟩) n c, .int .i64 i, .int .i64 ((i + 1 : Nat) : Int)] M = some (u, m') ∧
      u = .slice (some ⟨z, 0, none⟩) (n - 1) c ∧ m'.get z = some (.cells (flat (zs.take i ++ zs.drop (i + 1)) ++ (z0.cells ++ sp)) 9 .sole) ∧ (∀ o, o ≠ z → m'.get o = M.get o) ∧ m'.next = M.next := by
  rw [cl_fun (fn := Try.f81) (by kernel_rfl) (by kernel_rfl)]
  exact runFn_of (C := ctx) (call := cl (k + 1)) (fid := 81) (fn := Try.f81) (R := fun u m' => u = .slice (some ⟨z, 0, none⟩) (n - 1) c ∧ m'.get z = some (.cells (flat (zs.take i ++ zs.drop (i + 1)) ++ (z0.cells ++ sp)) 9 .sole) ∧ (∀ o, o ≠ z → m'.get o = M.get o) ∧ m'.next = M.next) b81_body (by kernel_rfl)
    (RunP.mono (delete_run hz hsp hc hnn hn hi) fun e s m1 ⟨h1, h2, h3, h4, h5⟩ => ⟨fun id q => (by rw [h1] at q; cases q), [s.get 6], by rw [ret81]; rfl, h2, h3, h4, h5⟩)

theorem dirAt_ins {m' : Mem} {v nx : Int} {n c z' c' : Nat} {h : Value} {ho : Option AObj} {l : List Z} {sp' : List Value} (hl : l.length = n + 1) (m0 : m'.get 0 = some (.cells (dirCells v nx 1 n c h) 4 .sole)) (m2 : m'.get 2 = ho)
    (g1 : m'.get z' = some (.cells (flat l ++ sp') 9 .sole)) (g2 : z' = 1 ∨ 3 ≤ z') (g5 : z' < m'.next) (g8 : ∃ us, m'.get 1 = some (.cells us 9 .sole)) (g6 : (c' < UNK ∧ c' * 9 = (flat l ++ sp').length) ∨ c' = UNK + 9 + UNK * (n + 1)) :
    DirAt (m'.put 0 (.cells (splice (dirCells v nx 1 n c h) 2 (Val.cells (.slice (some ⟨z', 0, none⟩) (n + 1) c'))) 4 .sole)) v nx l h ho := by
  have hz0 : z' ≠ 0 := by rcases g2 with g2 | g2 <;> omega
  refine ⟨z', c', sp', ?_, ?_, ?_, g5, ?_, g8.elim fun us h => ⟨us, by rw [Mem.get_put, if_neg (by decide)]; exact h⟩, ?_⟩
  · rw [Mem.get_put, if_pos rfl, hl]; rfl
  · rw [Mem.get_put, if_neg hz0]; exact g1
  · rcases g2 with g2 | g2 <;> omega
  · rw [Mem.get_put, if_neg (by decide)]; exact m2
  · rw [hl]; exact g6

theorem dirAt_del {m' : Mem} {v nx : Int} {n c : Nat} {h : Value} {ho : Option AObj} {l : List Z} {sp' : List Value} (hl : l.length = n - 1) (m0 : m'.get 0 = some (.cells (dirCells v nx 1 n c h) 4 .sole)) (m2 : m'.get 2 = ho)
    (g1 : m'.get 1 = some (.cells (flat l ++ sp') 9 .sole)) (hc : c < UNK) (hcl : c * 9 = (flat l ++ sp').length) (g5 : 1 < m'.next) :
    DirAt (m'.put 0 (.cells (splice (dirCells v nx 1 n c h) 2 (Val.cells (.slice (some ⟨1, 0, none⟩) (n - 1) c))) 4 .sole)) v nx l h ho := by
  refine ⟨1, c, sp', ?_, ?_, .inl rfl, g5, ?_, ⟨_, by rw [Mem.get_put, if_neg (by decide)]; exact g1⟩, .inl ⟨hc, hcl⟩⟩
  · rw [Mem.get_put, if_pos rfl, hl]; rfl
  · rw [Mem.get_put, if_neg (by decide)]; exact g1
  · rw [Mem.get_put, if_neg (by decide)]; exact m2

noncomputable def b40 : Code := bodyOf Try.f40
theorem b40_body : Try.f40.body = some b40 := by kernel_rfl
noncomputable def r40_0 : Array Oper := rOps (sA (b40))
noncomputable def r40_1 : Array Oper := rOps (sA (sA (sB (b40))))
noncomputable def r40_2 : Array Oper := rOps (sA (ifA (sB (sA (sB (b40))))))
noncomputable def r40_3 : Array Oper := rOps (sA (sB (sB (b40))))
noncomputable def r40_4 : Array Oper := rOps (sA (sA (sB (sB (sB (b40))))))
noncomputable def r40_5 : Array Oper := rOps (sA (ifA (sB (sA (sB (sB (sB (b40))))))))
noncomputable def r40_6 : Array Oper := rOps (sA (sB (sB (sB (sB (b40))))))
noncomputable def r40_7 : Array Oper := rOps (sA (sB (sB (sB (sB (sB (b40)))))))
theorem b40_eq : b40 = .seq (.region 0 r40_0 false) (.seq (.seq (.region 1 r40_1 false) (.cond (.tmp 17) (.seq (.region 2 r40_2 false) (.ret)) (.skip))) (.seq (.region 3 r40_3 true) (.seq (.seq (.region 4 r40_4 true) (.cond (.tmp 55) (.seq (.region 5 r40_5 false) (.ret)) (.skip))) (.seq (.region 6 r40_6 true) (.seq (.region 7 r40_7 false) (.ret)))))) := by kernel_rfl
theorem ret40 : Try.f40.results.toList = [.tmp 6] := by kernel_rfl
theorem hr40_1_0_1 : r40_1.toList.drop 1 = (r40_1.toList.drop 1).headD default :: r40_1.toList.drop 2 := by kernel_rfl
theorem hr40_1_2_8 : (r40_1.toList.drop 2).drop 6 = ((r40_1.toList.drop 2).drop 6).headD default :: r40_1.toList.drop 9 := by kernel_rfl
theorem plan40_3 : ctx.plans 40 3 = some ⟨[0, 1, 2, 3, 4, 5, 6, 7, 8, 9, 10, 11, 12, 13, 14], [4, 11], [⟨15, [], [11]⟩, ⟨16, [], []⟩]⟩ := by kernel_rfl
theorem hr40_3_0_1_2_3_4_5_6_7_8_9_10_11_12_13_14_0_6 : (opsAt r40_3 [0, 1, 2, 3, 4, 5, 6, 7, 8, 9, 10, 11, 12, 13, 14]).drop 6 = ((opsAt r40_3 [0, 1, 2, 3, 4, 5, 6, 7, 8, 9, 10, 11, 12, 13, 14]).drop 6).headD default :: (opsAt r40_3 [0, 1, 2, 3, 4, 5, 6, 7, 8, 9, 10, 11, 12, 13, 14]).drop 7 := by kernel_rfl
theorem hr40_3_0_1_2_3_4_5_6_7_8_9_10_11_12_13_14_7_13 : ((opsAt r40_3 [0, 1, 2, 3, 4, 5, 6, 7, 8, 9, 10, 11, 12, 13, 14]).drop 7).drop 6 = (((opsAt r40_3 [0, 1, 2, 3, 4, 5, 6, 7, 8, 9, 10, 11, 12, 13, 14]).drop 7).drop 6).headD default :: (opsAt r40_3 [0, 1, 2, 3, 4, 5, 6, 7, 8, 9, 10, 11, 12, 13, 14]).drop 14 := by kernel_rfl
theorem hr40_3_0_1_2_3_4_5_6_7_8_9_10_11_12_13_14_14_14 : ((opsAt r40_3 [0, 1, 2, 3, 4, 5, 6, 7, 8, 9, 10, 11, 12, 13, 14]).drop 14) = (((opsAt r40_3 [0, 1, 2, 3, 4, 5, 6, 7, 8, 9, 10, 11, 12, 13, 14]).drop 14)).headD default :: (opsAt r40_3 [0, 1, 2, 3, 4, 5, 6, 7, 8, 9, 10, 11, 12, 13, 14]).drop 15 := by kernel_rfl
theorem plan40_4 : ctx.plans 40 4 = some ⟨[0, 1, 2, 3, 4, 5, 6, 7, 8, 9, 10, 11, 12, 13, 14, 15, 16, 17, 18, 19, 20, 21, 22], [3, 9, 16, 20], []⟩ := by kernel_rfl
theorem hr40_4_0_1_2_3_4_5_6_7_8_9_10_11_12_13_14_15_16_17_18_19_20_21_22_0_3 : (opsAt r40_4 [0, 1, 2, 3, 4, 5, 6, 7, 8, 9, 10, 11, 12, 13, 14, 15, 16, 17, 18, 19, 20, 21, 22]).drop 3 = ((opsAt r40_4 [0, 1, 2, 3, 4, 5, 6, 7, 8, 9, 10, 11, 12, 13, 14, 15, 16, 17, 18, 19, 20, 21, 22]).drop 3).headD default :: (opsAt r40_4 [0, 1, 2, 3, 4, 5, 6, 7, 8, 9, 10, 11, 12, 13, 14, 15, 16, 17, 18, 19, 20, 21, 22]).drop 4 := by kernel_rfl
theorem hr40_4_0_1_2_3_4_5_6_7_8_9_10_11_12_13_14_15_16_17_18_19_20_21_22_4_4 : ((opsAt r40_4 [0, 1, 2, 3, 4, 5, 6, 7, 8, 9, 10, 11, 12, 13, 14, 15, 16, 17, 18, 19, 20, 21, 22]).drop 4) = (((opsAt r40_4 [0, 1, 2, 3, 4, 5, 6, 7, 8, 9, 10, 11, 12, 13, 14, 15, 16, 17, 18, 19, 20, 21, 22]).drop 4)).headD default :: (opsAt r40_4 [0, 1, 2, 3, 4, 5, 6, 7, 8, 9, 10, 11, 12, 13, 14, 15, 16, 17, 18, 19, 20, 21, 22]).drop 5 := by kernel_rfl
theorem hr40_4_0_1_2_3_4_5_6_7_8_9_10_11_12_13_14_15_16_17_18_19_20_21_22_5_9 : ((opsAt r40_4 [0, 1, 2, 3, 4, 5, 6, 7, 8, 9, 10, 11, 12, 13, 14, 15, 16, 17, 18, 19, 20, 21, 22]).drop 5).drop 4 = (((opsAt r40_4 [0, 1, 2, 3, 4, 5, 6, 7, 8, 9, 10, 11, 12, 13, 14, 15, 16, 17, 18, 19, 20, 21, 22]).drop 5).drop 4).headD default :: (opsAt r40_4 [0, 1, 2, 3, 4, 5, 6, 7, 8, 9, 10, 11, 12, 13, 14, 15, 16, 17, 18, 19, 20, 21, 22]).drop 10 := by kernel_rfl
theorem hr40_4_0_1_2_3_4_5_6_7_8_9_10_11_12_13_14_15_16_17_18_19_20_21_22_10_10 : ((opsAt r40_4 [0, 1, 2, 3, 4, 5, 6, 7, 8, 9, 10, 11, 12, 13, 14, 15, 16, 17, 18, 19, 20, 21, 22]).drop 10) = (((opsAt r40_4 [0, 1, 2, 3, 4, 5, 6, 7, 8, 9, 10, 11, 12, 13, 14, 15, 16, 17, 18, 19, 20, 21, 22]).drop 10)).headD default :: (opsAt r40_4 [0, 1, 2, 3, 4, 5, 6, 7, 8, 9, 10, 11, 12, 13, 14, 15, 16, 17, 18, 19, 20, 21, 22]).drop 11 := by kernel_rfl
theorem hr40_4_0_1_2_3_4_5_6_7_8_9_10_11_12_13_14_15_16_17_18_19_20_21_22_11_16 : ((opsAt r40_4 [0, 1, 2, 3, 4, 5, 6, 7, 8, 9, 10, 11, 12, 13, 14, 15, 16, 17, 18, 19, 20, 21, 22]).drop 11).drop 5 = (((opsAt r40_4 [0, 1, 2, 3, 4, 5, 6, 7, 8, 9, 10, 11, 12, 13, 14, 15, 16, 17, 18, 19, 20, 21, 22]).drop 11).drop 5).headD default :: (opsAt r40_4 [0, 1, 2, 3, 4, 5, 6, 7, 8, 9, 10, 11, 12, 13, 14, 15, 16, 17, 18, 19, 20, 21, 22]).drop 17 := by kernel_rfl
theorem hr40_4_0_1_2_3_4_5_6_7_8_9_10_11_12_13_14_15_16_17_18_19_20_21_22_17_20 : ((opsAt r40_4 [0, 1, 2, 3, 4, 5, 6, 7, 8, 9, 10, 11, 12, 13, 14, 15, 16, 17, 18, 19, 20, 21, 22]).drop 17).drop 3 = (((opsAt r40_4 [0, 1, 2, 3, 4, 5, 6, 7, 8, 9, 10, 11, 12, 13, 14, 15, 16, 17, 18, 19, 20, 21, 22]).drop 17).drop 3).headD default :: (opsAt r40_4 [0, 1, 2, 3, 4, 5, 6, 7, 8, 9, 10, 11, 12, 13, 14, 15, 16, 17, 18, 19, 20, 21, 22]).drop 21 := by kernel_rfl
theorem hr40_4_0_1_2_3_4_5_6_7_8_9_10_11_12_13_14_15_16_17_18_19_20_21_22_21_21 : ((opsAt r40_4 [0, 1, 2, 3, 4, 5, 6, 7, 8, 9, 10, 11, 12, 13, 14, 15, 16, 17, 18, 19, 20, 21, 22]).drop 21) = (((opsAt r40_4 [0, 1, 2, 3, 4, 5, 6, 7, 8, 9, 10, 11, 12, 13, 14, 15, 16, 17, 18, 19, 20, 21, 22]).drop 21)).headD default :: (opsAt r40_4 [0, 1, 2, 3, 4, 5, 6, 7, 8, 9, 10, 11, 12, 13, 14, 15, 16, 17, 18, 19, 20, 21, 22]).drop 22 := by kernel_rfl
theorem plan40_6 : ctx.plans 40 6 = some ⟨[0, 1, 2, 3, 4, 5, 6, 7, 8, 9, 10, 11, 12, 13], [7, 11], [⟨14, [15, 16], []⟩, ⟨17, [18, 19], []⟩, ⟨20, [21, 22], []⟩, ⟨23, [], []⟩]⟩ := by kernel_rfl
theorem hr40_6_0_1_2_3_4_5_6_7_8_9_10_11_12_13_0_7 : (opsAt r40_6 [0, 1, 2, 3, 4, 5, 6, 7, 8, 9, 10, 11, 12, 13]).drop 7 = ((opsAt r40_6 [0, 1, 2, 3, 4, 5, 6, 7, 8, 9, 10, 11, 12, 13]).drop 7).headD default :: (opsAt r40_6 [0, 1, 2, 3, 4, 5, 6, 7, 8, 9, 10, 11, 12, 13]).drop 8 := by kernel_rfl
theorem hr40_6_0_1_2_3_4_5_6_7_8_9_10_11_12_13_8_11 : ((opsAt r40_6 [0, 1, 2, 3, 4, 5, 6, 7, 8, 9, 10, 11, 12, 13]).drop 8).drop 3 = (((opsAt r40_6 [0, 1, 2, 3, 4, 5, 6, 7, 8, 9, 10, 11, 12, 13]).drop 8).drop 3).headD default :: (opsAt r40_6 [0, 1, 2, 3, 4, 5, 6, 7, 8, 9, 10, 11, 12, 13]).drop 12 := by kernel_rfl
theorem hr40_6_14_15_16_0_0 : (opsAt r40_6 [14, 15, 16]) = ((opsAt r40_6 [14, 15, 16])).headD default :: (opsAt r40_6 [14, 15, 16]).drop 1 := by kernel_rfl
theorem hr40_6_17_18_19_0_0 : (opsAt r40_6 [17, 18, 19]) = ((opsAt r40_6 [17, 18, 19])).headD default :: (opsAt r40_6 [17, 18, 19]).drop 1 := by kernel_rfl
theorem hr40_6_20_21_22_0_0 : (opsAt r40_6 [20, 21, 22]) = ((opsAt r40_6 [20, 21, 22])).headD default :: (opsAt r40_6 [20, 21, 22]).drop 1 := by kernel_rfl
theorem hr40_6_23_0_0 : (opsAt r40_6 [23]) = ((opsAt r40_6 [23])).headD default :: (opsAt r40_6 [23]).drop 1 := by kernel_rfl
set_option maxRecDepth 100000 in
set_option maxHeartbeats 0 in
theorem merge_run {n i : Nat} {v nx : Int} {zs : List Z} {sp : List Value} {c : Nat} {hs : List Int} {hc2 : Nat} {hst : Stat} {x3 x4 : AObj} {z : Z} {k : Ch} (hz : zs[i]? = some z) (hsp : (flat zs ++ sp).length = c * 9) (hc : c < UNK) (hn : zs.length ≤ 1000) (hnx : 0 ≤ nx) (hep : 0 ≤ z.ep) (hal : ∀ m : Mem, m.alive hst = true) (hce : (hs.length == 0 && hc2 == UNK) = false) (hhn : hs.length ≤ 1000) :
    RunP ctx (cl (n + 3)) 40 b40 (initSlots [ptr 0 0, .int .i64 ((i : Nat) : Int), .agg ⟨k.cells⟩]) (mA v nx zs sp c hs hc2 hst x3 x4) (KPost v nx zs (.slice (some ⟨2, 0, none⟩) hs.length hc2) (some (.cells (ints hs) 1 hst)) (mergeM nx zs i z)) := by
  have hi : i < zs.length := (List.getElem?_eq_some_iff.1 hz).1
  rw [b40_eq]
  refine RunP.seq ?_
  refine RunP.region ?_
  refine OpsP.rest (by kernel_rfl) ?_
  refine RunP.seq ?_
  refine RunP.seq ?_
  refine RunP.region ?_
  refine OpsP.take 1 (by kernel_rfl) ?_
  refine OpsP.stepAt hr40_1_0_1 (step_add (t := 3) (w := 3) (x := .tmp 9) (y := .const (.int .i64 1)) (k := .i64) (a := ((i : Nat) : Int)) (b := 1) (c := ((i + 1 : Nat) : Int)) (by kernel_rfl) (by kernel_rfl) (by kernel_rfl) (by kernel_rfl) (wrap_i1 (by omega))) ?_
  refine OpsP.take 6 (by kernel_rfl) ?_
  refine OpsP.boolT 17 hr40_1_2_8 (by kernel_rfl) (decide (((zs.length : Nat) : Int) ≤ ((i + 1 : Nat) : Int))) (by kernel_rfl) (fun q1 => ?_) fun q1 => ?_
  ·
    have hnone : zs[i + 1]? = none := List.getElem?_eq_none (by have := of_decide_eq_true q1; omega)
    refine OpsP.nil ?_
    refine RunP.cond (t := true) (by kernel_rfl) (fun _ => ?_) fun h => by cases h
    refine RunP.seq ?_
    refine RunP.region ?_
    refine OpsP.rest (by kernel_rfl) ?_
    refine RunP.ret ?_
    have hM : mergeM nx zs i z = none := by unfold mergeM; simp only [q1, hnone] <;> rfl
    exact KPost.no hM rfl (by kernel_rfl) ⟨1, c, sp, by kernel_rfl, by kernel_rfl, .inl rfl, Nat.le_of_ble_eq_true (by kernel_rfl), by kernel_rfl, ⟨flat zs ++ sp, by kernel_rfl⟩, .inl ⟨hc, hsp.symm⟩⟩
  ·
    have hi1 : i + 1 < zs.length := by have := of_decide_eq_false q1; omega
    obtain ⟨y, hy⟩ : ∃ y, zs[i + 1]? = some y := ⟨_, List.getElem?_eq_getElem hi1⟩
    refine OpsP.nil ?_
    refine RunP.cond (t := false) (by kernel_rfl) (fun h => by cases h) fun _ => ?_
    refine RunP.skip ?_
    refine RunP.seq ?_
    refine RunP.plan plan40_3 (by kernel_rfl) (by kernel_rfl) ?_
    refine OpsP.take 6 (by kernel_rfl) ?_
    refine OpsP.stepAt hr40_3_0_1_2_3_4_5_6_7_8_9_10_11_12_13_14_0_6 (step_indexAddr (x := .tmp 22) (i := .tmp 23) (t := 28) (e := 39) (z := 9) (j := i) (n := zs.length) (c := c) (b := 1) (off := 0) (k := .i64) (iv := (((i : Nat) : Int))) (by kernel_rfl) (by kernel_rfl) (by kernel_rfl) (by kernel_rfl) (by kernel_rfl) (by kernel_rfl) rfl hi) ?_
    refine OpsP.take 6 (by kernel_rfl) ?_
    refine OpsP.stepAt hr40_3_0_1_2_3_4_5_6_7_8_9_10_11_12_13_14_7_13 (step_add (t := 3) (w := 3) (x := .tmp 30) (y := .const (.int .i64 1)) (k := .i64) (a := ((i : Nat) : Int)) (b := 1) (c := ((i + 1 : Nat) : Int)) (by kernel_rfl) (by kernel_rfl) (by kernel_rfl) (by kernel_rfl) (wrap_i1 (by omega))) ?_
    refine OpsP.stepAt hr40_3_0_1_2_3_4_5_6_7_8_9_10_11_12_13_14_14_14 (step_indexAddr (x := .tmp 29) (i := .tmp 31) (t := 28) (e := 39) (z := 9) (j := (i + 1)) (n := zs.length) (c := c) (b := 1) (off := 0) (k := .i64) (iv := (((i + 1 : Nat) : Int))) (by kernel_rfl) (by kernel_rfl) (by kernel_rfl) (by kernel_rfl) (by kernel_rfl) (by kernel_rfl) rfl hi1) ?_
    refine OpsP.nil ?_
    refine ⟨(again_k (v := .slice (some ⟨1, 0, none⟩) zs.length c) (d := 22) (by kernel_rfl) (by kernel_rfl) (by kernel_rfl) (by kernel_rfl) (by kernel_rfl) (veq_slice (by kernel_rfl)) (again_k (v := .slice (some ⟨1, 0, none⟩) zs.length c) (d := 29) (by kernel_rfl) (by kernel_rfl) (by kernel_rfl) (by kernel_rfl) (by kernel_rfl) (veq_slice (by kernel_rfl)) again_nil)), ?_⟩
    refine OpsP.rest (by kernel_rfl) ?_
    refine ⟨(again_k (v := .slice (some ⟨1, 0, none⟩) zs.length c) (d := 29) (by kernel_rfl) (by kernel_rfl) (by kernel_rfl) (by kernel_rfl) (by kernel_rfl) (veq_slice (by kernel_rfl)) again_nil), ?_⟩
    refine OpsP.rest (by kernel_rfl) ?_
    refine ⟨again_nil, ?_⟩
    refine RunP.seq ?_
    refine RunP.seq ?_
    refine RunP.plan plan40_4 (by kernel_rfl) (by kernel_rfl) ?_
    refine OpsP.take 3 (by kernel_rfl) ?_
    refine OpsP.stepAt hr40_4_0_1_2_3_4_5_6_7_8_9_10_11_12_13_14_15_16_17_18_19_20_21_22_0_3 (step_loadF (t := 3) (a := .tmp 35) (b := 1) (j := i) (f := 5) (n := 1) (ag := false) (st := .sole) (zs := zs) (rest := sp) (z := z) (v := .int .i64 (z.pend)) (by kernel_rfl) (by kernel_rfl) (by kernel_rfl) (by kernel_rfl) (by kernel_rfl) rfl hz (by decide) (by kernel_rfl)) ?_
    refine OpsP.boolN 37 hr40_4_0_1_2_3_4_5_6_7_8_9_10_11_12_13_14_15_16_17_18_19_20_21_22_4_4 (by kernel_rfl) (decide (z.pend = 0)) (by kernel_rfl) (fun q2 => ?_) fun q2 => ?_
    ·
      refine OpsP.take 4 (by kernel_rfl) ?_
      refine OpsP.stepAt hr40_4_0_1_2_3_4_5_6_7_8_9_10_11_12_13_14_15_16_17_18_19_20_21_22_5_9 (step_loadF (t := 3) (a := .tmp 41) (b := 1) (j := (i + 1)) (f := 5) (n := 1) (ag := false) (st := .sole) (zs := zs) (rest := sp) (z := y) (v := .int .i64 (y.pend)) (by kernel_rfl) (by kernel_rfl) (by kernel_rfl) (by kernel_rfl) (by kernel_rfl) rfl hy (by decide) (by kernel_rfl)) ?_
      refine OpsP.boolN 43 hr40_4_0_1_2_3_4_5_6_7_8_9_10_11_12_13_14_15_16_17_18_19_20_21_22_10_10 (by kernel_rfl) (decide (y.pend = 0)) (by kernel_rfl) (fun q3 => ?_) fun q3 => ?_
      ·
        refine OpsP.take 5 (by kernel_rfl) ?_
        refine OpsP.stepAt hr40_4_0_1_2_3_4_5_6_7_8_9_10_11_12_13_14_15_16_17_18_19_20_21_22_11_16 (step_loadF (t := 3) (a := .tmp 48) (b := 1) (j := i) (f := 3) (n := 1) (ag := false) (st := .sole) (zs := zs) (rest := sp) (z := z) (v := .int .i64 (z.own)) (by kernel_rfl) (by kernel_rfl) (by kernel_rfl) (by kernel_rfl) (by kernel_rfl) rfl hz (by decide) (by kernel_rfl)) ?_
        refine OpsP.take 3 (by kernel_rfl) ?_
        refine OpsP.stepAt hr40_4_0_1_2_3_4_5_6_7_8_9_10_11_12_13_14_15_16_17_18_19_20_21_22_17_20 (step_loadF (t := 3) (a := .tmp 52) (b := 1) (j := (i + 1)) (f := 3) (n := 1) (ag := false) (st := .sole) (zs := zs) (rest := sp) (z := y) (v := .int .i64 (y.own)) (by kernel_rfl) (by kernel_rfl) (by kernel_rfl) (by kernel_rfl) (by kernel_rfl) rfl hy (by decide) (by kernel_rfl)) ?_
        refine OpsP.boolN 54 hr40_4_0_1_2_3_4_5_6_7_8_9_10_11_12_13_14_15_16_17_18_19_20_21_22_21_21 (by kernel_rfl) (decide (z.own = y.own)) (by kernel_rfl) (fun q4 => ?_) fun q4 => ?_
        ·
          refine OpsP.rest (by kernel_rfl) ?_
          refine ⟨(again_k (v := .int .i64 (z.pend)) (d := 36) (by kernel_rfl) (by kernel_rfl) (prim_loadF (t := 3) (a := .tmp 35) (b := 1) (j := i) (f := 5) (n := 1) (ag := false) (st := .sole) (zs := zs) (rest := sp) (z := z) (v := .int .i64 (z.pend)) (by kernel_rfl) (by kernel_rfl) (by kernel_rfl) (by kernel_rfl) rfl hz (by decide) (by kernel_rfl)) (by kernel_rfl) (by kernel_rfl) (veq_int _ _) (again_k (v := .int .i64 (y.pend)) (d := 42) (by kernel_rfl) (by kernel_rfl) (prim_loadF (t := 3) (a := .tmp 41) (b := 1) (j := (i + 1)) (f := 5) (n := 1) (ag := false) (st := .sole) (zs := zs) (rest := sp) (z := y) (v := .int .i64 (y.pend)) (by kernel_rfl) (by kernel_rfl) (by kernel_rfl) (by kernel_rfl) rfl hy (by decide) (by kernel_rfl)) (by kernel_rfl) (by kernel_rfl) (veq_int _ _) (again_k (v := .int .i64 (z.own)) (d := 49) (by kernel_rfl) (by kernel_rfl) (prim_loadF (t := 3) (a := .tmp 48) (b := 1) (j := i) (f := 3) (n := 1) (ag := false) (st := .sole) (zs := zs) (rest := sp) (z := z) (v := .int .i64 (z.own)) (by kernel_rfl) (by kernel_rfl) (by kernel_rfl) (by kernel_rfl) rfl hz (by decide) (by kernel_rfl)) (by kernel_rfl) (by kernel_rfl) (veq_int _ _) (again_k (v := .int .i64 (y.own)) (d := 53) (by kernel_rfl) (by kernel_rfl) (prim_loadF (t := 3) (a := .tmp 52) (b := 1) (j := (i + 1)) (f := 3) (n := 1) (ag := false) (st := .sole) (zs := zs) (rest := sp) (z := y) (v := .int .i64 (y.own)) (by kernel_rfl) (by kernel_rfl) (by kernel_rfl) (by kernel_rfl) rfl hy (by decide) (by kernel_rfl)) (by kernel_rfl) (by kernel_rfl) (veq_int _ _) again_nil)))), ?_⟩
          refine RunP.cond (t := false) (by kernel_rfl) (fun h => by cases h) fun _ => ?_
          refine RunP.skip ?_
          refine RunP.seq ?_
          refine RunP.plan plan40_6 (by kernel_rfl) (by kernel_rfl) ?_
          refine OpsP.take 7 (by kernel_rfl) ?_
          refine OpsP.stepAt hr40_6_0_1_2_3_4_5_6_7_8_9_10_11_12_13_0_7 (step_loadF (t := 3) (a := .tmp 62) (b := 1) (j := (i + 1)) (f := 0) (n := 1) (ag := false) (st := .sole) (zs := zs) (rest := sp) (z := y) (v := .int .i64 (y.id)) (by kernel_rfl) (by kernel_rfl) (by kernel_rfl) (by kernel_rfl) (by kernel_rfl) rfl hy (by decide) (by kernel_rfl)) ?_
          refine OpsP.take 3 (by kernel_rfl) ?_
          refine OpsP.stepAt hr40_6_0_1_2_3_4_5_6_7_8_9_10_11_12_13_8_11 (step_loadF (t := 3) (a := .tmp 66) (b := 1) (j := i) (f := 0) (n := 1) (ag := false) (st := .sole) (zs := zs) (rest := sp) (z := z) (v := .int .i64 (z.id)) (by kernel_rfl) (by kernel_rfl) (by kernel_rfl) (by kernel_rfl) (by kernel_rfl) rfl hz (by decide) (by kernel_rfl)) ?_
          refine OpsP.rest (by kernel_rfl) ?_
          refine ⟨(again_k (v := .int .i64 (y.id)) (d := 63) (by kernel_rfl) (by kernel_rfl) (prim_loadF (t := 3) (a := .tmp 62) (b := 1) (j := (i + 1)) (f := 0) (n := 1) (ag := false) (st := .sole) (zs := zs) (rest := sp) (z := y) (v := .int .i64 (y.id)) (by kernel_rfl) (by kernel_rfl) (by kernel_rfl) (by kernel_rfl) rfl hy (by decide) (by kernel_rfl)) (by kernel_rfl) (by kernel_rfl) (veq_int _ _) (again_k (v := .int .i64 (z.id)) (d := 67) (by kernel_rfl) (by kernel_rfl) (prim_loadF (t := 3) (a := .tmp 66) (b := 1) (j := i) (f := 0) (n := 1) (ag := false) (st := .sole) (zs := zs) (rest := sp) (z := z) (v := .int .i64 (z.id)) (by kernel_rfl) (by kernel_rfl) (by kernel_rfl) (by kernel_rfl) rfl hz (by decide) (by kernel_rfl)) (by kernel_rfl) (by kernel_rfl) (veq_int _ _) again_nil)), ?_⟩
          refine OpsP.stepAt hr40_6_14_15_16_0_0 (step_storeF (t := 3) (a := .tmp 69) (x := .const (.int .i64 2)) (b := 1) (j := i) (f := 5) (u := .int .i64 2) (zs := zs) (rest := sp) (z := z) (z' := { z with pend := 2 }) (by kernel_rfl) (by kernel_rfl) (by kernel_rfl) (by kernel_rfl) info3_eq (by kernel_rfl) (by kernel_rfl) (by kernel_rfl) hz (Nat.le_of_ble_eq_true (by kernel_rfl)) (by kernel_rfl) (by kernel_rfl)) ?_
          refine OpsP.rest (by kernel_rfl) ?_
          refine ⟨again_nil, ?_⟩
          refine OpsP.stepAt hr40_6_17_18_19_0_0 (step_storeF (t := 3) (a := .tmp 71) (x := .tmp 63) (b := 1) (j := i) (f := 8) (u := .int .i64 (y.id)) (zs := (zs.set i { z with pend := 2 })) (rest := sp) (z := { z with pend := 2 }) (z' := { z with pend := 2, new := y.id }) (by kernel_rfl) (by kernel_rfl) (by kernel_rfl) (by kernel_rfl) info3_eq (by kernel_rfl) (by kernel_rfl) (by kernel_rfl) (set_at hz) (Nat.le_of_ble_eq_true (by kernel_rfl)) (by kernel_rfl) (by kernel_rfl)) ?_
          refine OpsP.rest (by kernel_rfl) ?_
          refine ⟨again_nil, ?_⟩
          refine OpsP.stepAt hr40_6_20_21_22_0_0 (step_storeF (t := 3) (a := .tmp 73) (x := .const (.int .i64 2)) (b := 1) (j := (i + 1)) (f := 5) (u := .int .i64 2) (zs := ((zs.set i { z with pend := 2 }).set i { z with pend := 2, new := y.id })) (rest := sp) (z := y) (z' := { y with pend := 2 }) (by kernel_rfl) (by kernel_rfl) (by kernel_rfl) (by kernel_rfl) info3_eq (by kernel_rfl) (by kernel_rfl) (by kernel_rfl) (set_ne (set_ne hy (by omega)) (by omega)) (Nat.le_of_ble_eq_true (by kernel_rfl)) (by kernel_rfl) (by kernel_rfl)) ?_
          refine OpsP.rest (by kernel_rfl) ?_
          refine ⟨again_nil, ?_⟩
          refine OpsP.stepAt hr40_6_23_0_0 (step_storeF (t := 3) (a := .tmp 75) (x := .tmp 67) (b := 1) (j := (i + 1)) (f := 8) (u := .int .i64 (z.id)) (zs := (((zs.set i { z with pend := 2 }).set i { z with pend := 2, new := y.id }).set (i + 1) { y with pend := 2 })) (rest := sp) (z := { y with pend := 2 }) (z' := { y with pend := 2, new := z.id }) (by kernel_rfl) (by kernel_rfl) (by kernel_rfl) (by kernel_rfl) info3_eq (by kernel_rfl) (by kernel_rfl) (by kernel_rfl) (set_at (set_ne (set_ne hy (by omega)) (by omega))) (Nat.le_of_ble_eq_true (by kernel_rfl)) (by kernel_rfl) (by kernel_rfl)) ?_
          refine OpsP.nil ?_
          refine ⟨again_nil, ?_⟩
          refine RunP.seq ?_
          refine RunP.region ?_
          refine OpsP.rest (by kernel_rfl) ?_
          refine RunP.ret ?_
          have hM : mergeM nx zs i z = some (nx, (zs.set i { z with pend := 2, new := y.id }).set (i + 1) { y with pend := 2, new := z.id }) := by unfold mergeM; simp only [q1, hy, q2, q3, q4] <;> rfl
          exact KPost.yes hM rfl (by kernel_rfl) ⟨1, c, sp, Eq.trans (b := some (.cells (dirCells v (nx) 1 zs.length c (.slice (some ⟨2, 0, none⟩) hs.length hc2)) 4 .sole)) (by kernel_rfl) (by simp), Eq.trans (b := some (.cells (flat ((((zs.set i { z with pend := 2 }).set i { z with pend := 2, new := y.id }).set (i + 1) { y with pend := 2 }).set (i + 1) { y with pend := 2, new := z.id }) ++ sp) 9 .sole)) (by kernel_rfl) (by rw [List.set_set, List.set_set]), .inl rfl, Nat.le_of_ble_eq_true (by kernel_rfl), by kernel_rfl, ⟨flat ((((zs.set i { z with pend := 2 }).set i { z with pend := 2, new := y.id }).set (i + 1) { y with pend := 2 }).set (i + 1) { y with pend := 2, new := z.id }) ++ sp, by kernel_rfl⟩, .inl ⟨hc, by simp [flat_length] at hsp ⊢; omega⟩⟩
        ·
          refine OpsP.rest (by kernel_rfl) ?_
          refine ⟨(again_k (v := .int .i64 (z.pend)) (d := 36) (by kernel_rfl) (by kernel_rfl) (prim_loadF (t := 3) (a := .tmp 35) (b := 1) (j := i) (f := 5) (n := 1) (ag := false) (st := .sole) (zs := zs) (rest := sp) (z := z) (v := .int .i64 (z.pend)) (by kernel_rfl) (by kernel_rfl) (by kernel_rfl) (by kernel_rfl) rfl hz (by decide) (by kernel_rfl)) (by kernel_rfl) (by kernel_rfl) (veq_int _ _) (again_k (v := .int .i64 (y.pend)) (d := 42) (by kernel_rfl) (by kernel_rfl) (prim_loadF (t := 3) (a := .tmp 41) (b := 1) (j := (i + 1)) (f := 5) (n := 1) (ag := false) (st := .sole) (zs := zs) (rest := sp) (z := y) (v := .int .i64 (y.pend)) (by kernel_rfl) (by kernel_rfl) (by kernel_rfl) (by kernel_rfl) rfl hy (by decide) (by kernel_rfl)) (by kernel_rfl) (by kernel_rfl) (veq_int _ _) (again_k (v := .int .i64 (z.own)) (d := 49) (by kernel_rfl) (by kernel_rfl) (prim_loadF (t := 3) (a := .tmp 48) (b := 1) (j := i) (f := 3) (n := 1) (ag := false) (st := .sole) (zs := zs) (rest := sp) (z := z) (v := .int .i64 (z.own)) (by kernel_rfl) (by kernel_rfl) (by kernel_rfl) (by kernel_rfl) rfl hz (by decide) (by kernel_rfl)) (by kernel_rfl) (by kernel_rfl) (veq_int _ _) (again_k (v := .int .i64 (y.own)) (d := 53) (by kernel_rfl) (by kernel_rfl) (prim_loadF (t := 3) (a := .tmp 52) (b := 1) (j := (i + 1)) (f := 3) (n := 1) (ag := false) (st := .sole) (zs := zs) (rest := sp) (z := y) (v := .int .i64 (y.own)) (by kernel_rfl) (by kernel_rfl) (by kernel_rfl) (by kernel_rfl) rfl hy (by decide) (by kernel_rfl)) (by kernel_rfl) (by kernel_rfl) (veq_int _ _) again_nil)))), ?_⟩
          refine RunP.cond (t := true) (by kernel_rfl) (fun _ => ?_) fun h => by cases h
          refine RunP.seq ?_
          refine RunP.region ?_
          refine OpsP.rest (by kernel_rfl) ?_
          refine RunP.ret ?_
          have hM : mergeM nx zs i z = none := by unfold mergeM; simp only [q1, hy, q2, q3, q4] <;> rfl
          exact KPost.no hM rfl (by kernel_rfl) ⟨1, c, sp, by kernel_rfl, by kernel_rfl, .inl rfl, Nat.le_of_ble_eq_true (by kernel_rfl), by kernel_rfl, ⟨flat zs ++ sp, by kernel_rfl⟩, .inl ⟨hc, hsp.symm⟩⟩
      ·
        refine OpsP.rest (by kernel_rfl) ?_
        refine ⟨(again_k (v := .int .i64 (z.pend)) (d := 36) (by kernel_rfl) (by kernel_rfl) (prim_loadF (t := 3) (a := .tmp 35) (b := 1) (j := i) (f := 5) (n := 1) (ag := false) (st := .sole) (zs := zs) (rest := sp) (z := z) (v := .int .i64 (z.pend)) (by kernel_rfl) (by kernel_rfl) (by kernel_rfl) (by kernel_rfl) rfl hz (by decide) (by kernel_rfl)) (by kernel_rfl) (by kernel_rfl) (veq_int _ _) (again_k (v := .int .i64 (y.pend)) (d := 42) (by kernel_rfl) (by kernel_rfl) (prim_loadF (t := 3) (a := .tmp 41) (b := 1) (j := (i + 1)) (f := 5) (n := 1) (ag := false) (st := .sole) (zs := zs) (rest := sp) (z := y) (v := .int .i64 (y.pend)) (by kernel_rfl) (by kernel_rfl) (by kernel_rfl) (by kernel_rfl) rfl hy (by decide) (by kernel_rfl)) (by kernel_rfl) (by kernel_rfl) (veq_int _ _) (again_skip (by kernel_rfl) (by kernel_rfl) (again_skip (by kernel_rfl) (by kernel_rfl) again_nil)))), ?_⟩
        refine RunP.cond (t := true) (by kernel_rfl) (fun _ => ?_) fun h => by cases h
        refine RunP.seq ?_
        refine RunP.region ?_
        refine OpsP.rest (by kernel_rfl) ?_
        refine RunP.ret ?_
        have hM : mergeM nx zs i z = none := by unfold mergeM; simp only [q1, hy, q2, q3] <;> rfl
        exact KPost.no hM rfl (by kernel_rfl) ⟨1, c, sp, by kernel_rfl, by kernel_rfl, .inl rfl, Nat.le_of_ble_eq_true (by kernel_rfl), by kernel_rfl, ⟨flat zs ++ sp, by kernel_rfl⟩, .inl ⟨hc, hsp.symm⟩⟩
    ·
      refine OpsP.rest (by kernel_rfl) ?_
      refine ⟨(again_k (v := .int .i64 (z.pend)) (d := 36) (by kernel_rfl) (by kernel_rfl) (prim_loadF (t := 3) (a := .tmp 35) (b := 1) (j := i) (f := 5) (n := 1) (ag := false) (st := .sole) (zs := zs) (rest := sp) (z := z) (v := .int .i64 (z.pend)) (by kernel_rfl) (by kernel_rfl) (by kernel_rfl) (by kernel_rfl) rfl hz (by decide) (by kernel_rfl)) (by kernel_rfl) (by kernel_rfl) (veq_int _ _) (again_skip (by kernel_rfl) (by kernel_rfl) (again_skip (by kernel_rfl) (by kernel_rfl) (again_skip (by kernel_rfl) (by kernel_rfl) again_nil)))), ?_⟩
      refine RunP.cond (t := true) (by kernel_rfl) (fun _ => ?_) fun h => by cases h
      refine RunP.seq ?_
      refine RunP.region ?_
      refine OpsP.rest (by kernel_rfl) ?_
      refine RunP.ret ?_
      have hM : mergeM nx zs i z = none := by unfold mergeM; simp only [q1, hy, q2] <;> rfl
      exact KPost.no hM rfl (by kernel_rfl) ⟨1, c, sp, by kernel_rfl, by kernel_rfl, .inl rfl, Nat.le_of_ble_eq_true (by kernel_rfl), by kernel_rfl, ⟨flat zs ++ sp, by kernel_rfl⟩, .inl ⟨hc, hsp.symm⟩⟩

noncomputable def b42 : Code := bodyOf Try.f42
theorem b42_body : Try.f42.body = some b42 := by kernel_rfl
noncomputable def r42_0 : Array Oper := rOps (sA (b42))
noncomputable def r42_1 : Array Oper := rOps (sA (sB (b42)))
noncomputable def r42_2 : Array Oper := rOps (sA (sA (sB (sB (b42)))))
noncomputable def r42_3 : Array Oper := rOps (sA (ifA (sB (sA (sB (sB (b42)))))))
noncomputable def r42_4 : Array Oper := rOps (sA (sA (sB (sB (sB (b42))))))
noncomputable def r42_8 : Array Oper := rOps (sA (blockOf (sB (sA (sB (sB (sB (b42))))))))
noncomputable def r42_9 : Array Oper := rOps (sA (sA (ifA (sB (blockOf (sB (sA (sB (sB (sB (b42)))))))))))
noncomputable def r42_10 : Array Oper := rOps (sA (ifA (sB (sA (ifA (sB (blockOf (sB (sA (sB (sB (sB (b42)))))))))))))
noncomputable def r42_11 : Array Oper := rOps (sA (sB (ifA (sB (blockOf (sB (sA (sB (sB (sB (b42)))))))))))
noncomputable def r42_12 : Array Oper := rOps (sA (sB (sB (ifA (sB (blockOf (sB (sA (sB (sB (sB (b42))))))))))))
noncomputable def r42_13 : Array Oper := rOps (sA (sB (sB (sB (ifA (sB (blockOf (sB (sA (sB (sB (sB (b42)))))))))))))
noncomputable def r42_14 : Array Oper := rOps (sA (sB (sB (sB (sB (ifA (sB (blockOf (sB (sA (sB (sB (sB (b42))))))))))))))
noncomputable def r42_15 : Array Oper := rOps (sB (sB (sB (sB (sB (ifA (sB (blockOf (sB (sA (sB (sB (sB (b42))))))))))))))
noncomputable def r42_16 : Array Oper := rOps (sA (ifB (sB (blockOf (sB (sA (sB (sB (sB (b42))))))))))
noncomputable def r42_17 : Array Oper := rOps (sA (sA (ifA (sB (ifB (sB (blockOf (sB (sA (sB (sB (sB (b42)))))))))))))
noncomputable def r42_18 : Array Oper := rOps (sA (ifA (sB (sA (ifA (sB (ifB (sB (blockOf (sB (sA (sB (sB (sB (b42)))))))))))))))
noncomputable def r42_19 : Array Oper := rOps (sA (sB (ifA (sB (ifB (sB (blockOf (sB (sA (sB (sB (sB (b42)))))))))))))
noncomputable def r42_20 : Array Oper := rOps (sA (sB (sB (ifA (sB (ifB (sB (blockOf (sB (sA (sB (sB (sB (b42))))))))))))))
noncomputable def r42_21 : Array Oper := rOps (sA (sA (sB (sB (sB (ifA (sB (ifB (sB (blockOf (sB (sA (sB (sB (sB (b42))))))))))))))))
noncomputable def r42_22 : Array Oper := rOps (sA (ifA (sB (sA (sB (sB (sB (ifA (sB (ifB (sB (blockOf (sB (sA (sB (sB (sB (b42))))))))))))))))))
noncomputable def r42_23 : Array Oper := rOps (sA (sB (sB (sB (sB (ifA (sB (ifB (sB (blockOf (sB (sA (sB (sB (sB (b42))))))))))))))))
noncomputable def r42_24 : Array Oper := rOps (sA (sB (sB (sB (sB (sB (ifA (sB (ifB (sB (blockOf (sB (sA (sB (sB (sB (b42)))))))))))))))))
noncomputable def r42_25 : Array Oper := rOps (sA (sB (sB (sB (sB (sB (sB (ifA (sB (ifB (sB (blockOf (sB (sA (sB (sB (sB (b42))))))))))))))))))
noncomputable def r42_26 : Array Oper := rOps (sB (sB (sB (sB (sB (sB (sB (ifA (sB (ifB (sB (blockOf (sB (sA (sB (sB (sB (b42))))))))))))))))))
noncomputable def r42_5 : Array Oper := rOps (sA (ifB (sB (ifB (sB (blockOf (sB (sA (sB (sB (sB (b42))))))))))))
noncomputable def r42_6 : Array Oper := rOps (sA (sB (ifB (sB (ifB (sB (blockOf (sB (sA (sB (sB (sB (b42)))))))))))))
noncomputable def r42_7 : Array Oper := rOps (sB (sB (ifB (sB (ifB (sB (blockOf (sB (sA (sB (sB (sB (b42)))))))))))))
noncomputable def r42_27 : Array Oper := rOps (sA (sB (sB (sB (sB (b42))))))
theorem b42_eq : b42 = .seq (.region 0 r42_0 false) (.seq (.region 1 r42_1 false) (.seq (.seq (.region 2 r42_2 false) (.cond (.tmp 36) (.seq (.region 3 r42_3 false) (.ret)) (.skip))) (.seq (.seq (.region 4 r42_4 false) (.block 0 (.seq (.region 8 r42_8 false) (.cond (.tmp 55) (.seq (.seq (.region 9 r42_9 false) (.cond (.tmp 63) (.seq (.region 10 r42_10 false) (.ret)) (.skip))) (.seq (.region 11 r42_11 true) (.seq (.region 12 r42_12 false) (.seq (.region 13 r42_13 false) (.seq (.region 14 r42_14 true) (.region 15 r42_15 true)))))) (.seq (.region 16 r42_16 false) (.cond (.tmp 110) (.seq (.seq (.region 17 r42_17 true) (.cond (.tmp 135) (.seq (.region 18 r42_18 false) (.ret)) (.skip))) (.seq (.region 19 r42_19 false) (.seq (.region 20 r42_20 false) (.seq (.seq (.region 21 r42_21 false) (.cond (.tmp 151) (.seq (.region 22 r42_22 false) (.ret)) (.skip))) (.seq (.region 23 r42_23 false) (.seq (.region 24 r42_24 false) (.seq (.region 25 r42_25 true) (.region 26 r42_26 false)))))))) (.seq (.region 5 r42_5 false) (.seq (.region 6 r42_6 false) (.region 7 r42_7 true))))))))) (.seq (.region 27 r42_27 false) (.ret))))) := by kernel_rfl
theorem ret42 : Try.f42.results.toList = [.tmp 6] := by kernel_rfl
theorem hr42_1_0_6 : r42_1.toList.drop 6 = (r42_1.toList.drop 6).headD default :: r42_1.toList.drop 7 := by kernel_rfl
theorem hr42_1_7_7 : (r42_1.toList.drop 7) = ((r42_1.toList.drop 7)).headD default :: r42_1.toList.drop 8 := by kernel_rfl
theorem hr42_2_0_2 : r42_2.toList.drop 2 = (r42_2.toList.drop 2).headD default :: r42_2.toList.drop 3 := by kernel_rfl
theorem hr42_2_3_8 : (r42_2.toList.drop 3).drop 5 = ((r42_2.toList.drop 3).drop 5).headD default :: r42_2.toList.drop 9 := by kernel_rfl
theorem hr42_2_9_13 : (r42_2.toList.drop 9).drop 4 = ((r42_2.toList.drop 9).drop 4).headD default :: r42_2.toList.drop 14 := by kernel_rfl
theorem hr42_8_0_0 : r42_8.toList = (r42_8.toList).headD default :: r42_8.toList.drop 1 := by kernel_rfl
theorem hr42_9_0_6 : r42_9.toList.drop 6 = (r42_9.toList.drop 6).headD default :: r42_9.toList.drop 7 := by kernel_rfl
theorem plan42_11 : ctx.plans 42 11 = some ⟨[0, 1, 2, 3, 5, 6, 7, 8, 10, 11], [0, 2, 5, 7], [⟨4, [], [5, 7]⟩, ⟨9, [], []⟩, ⟨12, [], []⟩, ⟨13, [], []⟩]⟩ := by kernel_rfl
theorem hr42_11_0_1_2_3_5_6_7_8_10_11_0_3 : (opsAt r42_11 [0, 1, 2, 3, 5, 6, 7, 8, 10, 11]).drop 3 = ((opsAt r42_11 [0, 1, 2, 3, 5, 6, 7, 8, 10, 11]).drop 3).headD default :: (opsAt r42_11 [0, 1, 2, 3, 5, 6, 7, 8, 10, 11]).drop 4 := by kernel_rfl
theorem hr42_11_0_1_2_3_5_6_7_8_10_11_4_7 : ((opsAt r42_11 [0, 1, 2, 3, 5, 6, 7, 8, 10, 11]).drop 4).drop 3 = (((opsAt r42_11 [0, 1, 2, 3, 5, 6, 7, 8, 10, 11]).drop 4).drop 3).headD default :: (opsAt r42_11 [0, 1, 2, 3, 5, 6, 7, 8, 10, 11]).drop 8 := by kernel_rfl
theorem hr42_12_0_4 : r42_12.toList.drop 4 = (r42_12.toList.drop 4).headD default :: r42_12.toList.drop 5 := by kernel_rfl
theorem plan42_14 : ctx.plans 42 14 = some ⟨[0, 1, 2, 3, 4, 5, 6, 7], [4, 6], [⟨8, [], []⟩]⟩ := by kernel_rfl
theorem hr42_14_0_1_2_3_4_5_6_7_0_7 : (opsAt r42_14 [0, 1, 2, 3, 4, 5, 6, 7]).drop 7 = ((opsAt r42_14 [0, 1, 2, 3, 4, 5, 6, 7]).drop 7).headD default :: (opsAt r42_14 [0, 1, 2, 3, 4, 5, 6, 7]).drop 8 := by kernel_rfl
theorem hr42_14_8_0_0 : (opsAt r42_14 [8]) = ((opsAt r42_14 [8])).headD default :: (opsAt r42_14 [8]).drop 1 := by kernel_rfl
theorem plan42_15 : ctx.plans 42 15 = some ⟨[0, 1, 2, 3, 4, 5, 6, 7, 8, 9], [5, 8], [⟨10, [11, 12, 13], []⟩, ⟨14, [], []⟩]⟩ := by kernel_rfl
theorem hr42_15_0_1_2_3_4_5_6_7_8_9_0_7 : (opsAt r42_15 [0, 1, 2, 3, 4, 5, 6, 7, 8, 9]).drop 7 = ((opsAt r42_15 [0, 1, 2, 3, 4, 5, 6, 7, 8, 9]).drop 7).headD default :: (opsAt r42_15 [0, 1, 2, 3, 4, 5, 6, 7, 8, 9]).drop 8 := by kernel_rfl
theorem hr42_15_10_11_12_13_0_0 : (opsAt r42_15 [10, 11, 12, 13]) = ((opsAt r42_15 [10, 11, 12, 13])).headD default :: (opsAt r42_15 [10, 11, 12, 13]).drop 1 := by kernel_rfl
theorem hr42_15_14_0_0 : (opsAt r42_15 [14]) = ((opsAt r42_15 [14])).headD default :: (opsAt r42_15 [14]).drop 1 := by kernel_rfl
theorem hr42_16_0_0 : r42_16.toList = (r42_16.toList).headD default :: r42_16.toList.drop 1 := by kernel_rfl
theorem plan42_17 : ctx.plans 42 17 = some ⟨[0, 1, 2, 3, 4, 5, 6, 7, 8, 9, 10, 11, 12, 13, 14, 15, 16, 17, 18, 19, 20, 21, 22, 23], [6, 7, 14, 19, 21], []⟩ := by kernel_rfl
theorem hr42_17_0_1_2_3_4_5_6_7_8_9_10_11_12_13_14_15_16_17_18_19_20_21_22_23_0_1 : (opsAt r42_17 [0, 1, 2, 3, 4, 5, 6, 7, 8, 9, 10, 11, 12, 13, 14, 15, 16, 17, 18, 19, 20, 21, 22, 23]).drop 1 = ((opsAt r42_17 [0, 1, 2, 3, 4, 5, 6, 7, 8, 9, 10, 11, 12, 13, 14, 15, 16, 17, 18, 19, 20, 21, 22, 23]).drop 1).headD default :: (opsAt r42_17 [0, 1, 2, 3, 4, 5, 6, 7, 8, 9, 10, 11, 12, 13, 14, 15, 16, 17, 18, 19, 20, 21, 22, 23]).drop 2 := by kernel_rfl
theorem hr42_17_0_1_2_3_4_5_6_7_8_9_10_11_12_13_14_15_16_17_18_19_20_21_22_23_2_8 : ((opsAt r42_17 [0, 1, 2, 3, 4, 5, 6, 7, 8, 9, 10, 11, 12, 13, 14, 15, 16, 17, 18, 19, 20, 21, 22, 23]).drop 2).drop 6 = (((opsAt r42_17 [0, 1, 2, 3, 4, 5, 6, 7, 8, 9, 10, 11, 12, 13, 14, 15, 16, 17, 18, 19, 20, 21, 22, 23]).drop 2).drop 6).headD default :: (opsAt r42_17 [0, 1, 2, 3, 4, 5, 6, 7, 8, 9, 10, 11, 12, 13, 14, 15, 16, 17, 18, 19, 20, 21, 22, 23]).drop 9 := by kernel_rfl
theorem hr42_17_0_1_2_3_4_5_6_7_8_9_10_11_12_13_14_15_16_17_18_19_20_21_22_23_9_16 : ((opsAt r42_17 [0, 1, 2, 3, 4, 5, 6, 7, 8, 9, 10, 11, 12, 13, 14, 15, 16, 17, 18, 19, 20, 21, 22, 23]).drop 9).drop 7 = (((opsAt r42_17 [0, 1, 2, 3, 4, 5, 6, 7, 8, 9, 10, 11, 12, 13, 14, 15, 16, 17, 18, 19, 20, 21, 22, 23]).drop 9).drop 7).headD default :: (opsAt r42_17 [0, 1, 2, 3, 4, 5, 6, 7, 8, 9, 10, 11, 12, 13, 14, 15, 16, 17, 18, 19, 20, 21, 22, 23]).drop 17 := by kernel_rfl
theorem hr42_17_0_1_2_3_4_5_6_7_8_9_10_11_12_13_14_15_16_17_18_19_20_21_22_23_17_17 : ((opsAt r42_17 [0, 1, 2, 3, 4, 5, 6, 7, 8, 9, 10, 11, 12, 13, 14, 15, 16, 17, 18, 19, 20, 21, 22, 23]).drop 17) = (((opsAt r42_17 [0, 1, 2, 3, 4, 5, 6, 7, 8, 9, 10, 11, 12, 13, 14, 15, 16, 17, 18, 19, 20, 21, 22, 23]).drop 17)).headD default :: (opsAt r42_17 [0, 1, 2, 3, 4, 5, 6, 7, 8, 9, 10, 11, 12, 13, 14, 15, 16, 17, 18, 19, 20, 21, 22, 23]).drop 18 := by kernel_rfl
theorem hr42_17_0_1_2_3_4_5_6_7_8_9_10_11_12_13_14_15_16_17_18_19_20_21_22_23_18_19 : ((opsAt r42_17 [0, 1, 2, 3, 4, 5, 6, 7, 8, 9, 10, 11, 12, 13, 14, 15, 16, 17, 18, 19, 20, 21, 22, 23]).drop 18).drop 1 = (((opsAt r42_17 [0, 1, 2, 3, 4, 5, 6, 7, 8, 9, 10, 11, 12, 13, 14, 15, 16, 17, 18, 19, 20, 21, 22, 23]).drop 18).drop 1).headD default :: (opsAt r42_17 [0, 1, 2, 3, 4, 5, 6, 7, 8, 9, 10, 11, 12, 13, 14, 15, 16, 17, 18, 19, 20, 21, 22, 23]).drop 20 := by kernel_rfl
theorem hr42_17_0_1_2_3_4_5_6_7_8_9_10_11_12_13_14_15_16_17_18_19_20_21_22_23_20_22 : ((opsAt r42_17 [0, 1, 2, 3, 4, 5, 6, 7, 8, 9, 10, 11, 12, 13, 14, 15, 16, 17, 18, 19, 20, 21, 22, 23]).drop 20).drop 2 = (((opsAt r42_17 [0, 1, 2, 3, 4, 5, 6, 7, 8, 9, 10, 11, 12, 13, 14, 15, 16, 17, 18, 19, 20, 21, 22, 23]).drop 20).drop 2).headD default :: (opsAt r42_17 [0, 1, 2, 3, 4, 5, 6, 7, 8, 9, 10, 11, 12, 13, 14, 15, 16, 17, 18, 19, 20, 21, 22, 23]).drop 23 := by kernel_rfl
theorem hr42_19_0_6 : r42_19.toList.drop 6 = (r42_19.toList.drop 6).headD default :: r42_19.toList.drop 7 := by kernel_rfl
theorem hr42_19_7_7 : (r42_19.toList.drop 7) = ((r42_19.toList.drop 7)).headD default :: r42_19.toList.drop 8 := by kernel_rfl
theorem hr42_19_8_8 : (r42_19.toList.drop 8) = ((r42_19.toList.drop 8)).headD default :: r42_19.toList.drop 9 := by kernel_rfl
theorem hr42_20_0_4 : r42_20.toList.drop 4 = (r42_20.toList.drop 4).headD default :: r42_20.toList.drop 5 := by kernel_rfl
theorem hr42_21_0_1 : r42_21.toList.drop 1 = (r42_21.toList.drop 1).headD default :: r42_21.toList.drop 2 := by kernel_rfl
theorem hr42_23_0_2 : r42_23.toList.drop 2 = (r42_23.toList.drop 2).headD default :: r42_23.toList.drop 3 := by kernel_rfl
theorem hr42_24_0_4 : r42_24.toList.drop 4 = (r42_24.toList.drop 4).headD default :: r42_24.toList.drop 5 := by kernel_rfl
theorem plan42_25 : ctx.plans 42 25 = some ⟨[0, 1, 2, 3, 4, 5, 6, 7], [4, 6], [⟨8, [], []⟩]⟩ := by kernel_rfl
theorem hr42_25_0_1_2_3_4_5_6_7_0_7 : (opsAt r42_25 [0, 1, 2, 3, 4, 5, 6, 7]).drop 7 = ((opsAt r42_25 [0, 1, 2, 3, 4, 5, 6, 7]).drop 7).headD default :: (opsAt r42_25 [0, 1, 2, 3, 4, 5, 6, 7]).drop 8 := by kernel_rfl
theorem hr42_25_8_0_0 : (opsAt r42_25 [8]) = ((opsAt r42_25 [8])).headD default :: (opsAt r42_25 [8]).drop 1 := by kernel_rfl
theorem hr42_26_0_7 : r42_26.toList.drop 7 = (r42_26.toList.drop 7).headD default :: r42_26.toList.drop 8 := by kernel_rfl
theorem hr42_26_8_9 : (r42_26.toList.drop 8).drop 1 = ((r42_26.toList.drop 8).drop 1).headD default :: r42_26.toList.drop 10 := by kernel_rfl
theorem hr42_26_10_10 : (r42_26.toList.drop 10) = ((r42_26.toList.drop 10)).headD default :: r42_26.toList.drop 11 := by kernel_rfl
theorem hr42_26_11_14 : (r42_26.toList.drop 11).drop 3 = ((r42_26.toList.drop 11).drop 3).headD default :: r42_26.toList.drop 15 := by kernel_rfl
theorem hr42_5_0_3 : r42_5.toList.drop 3 = (r42_5.toList.drop 3).headD default :: r42_5.toList.drop 4 := by kernel_rfl
theorem plan42_7 : ctx.plans 42 7 = some ⟨[0, 1, 2, 3, 4, 5, 6, 7], [4, 6], [⟨8, [], []⟩]⟩ := by kernel_rfl
theorem hr42_7_0_1_2_3_4_5_6_7_0_7 : (opsAt r42_7 [0, 1, 2, 3, 4, 5, 6, 7]).drop 7 = ((opsAt r42_7 [0, 1, 2, 3, 4, 5, 6, 7]).drop 7).headD default :: (opsAt r42_7 [0, 1, 2, 3, 4, 5, 6, 7]).drop 8 := by kernel_rfl
theorem hr42_7_8_0_0 : (opsAt r42_7 [8]) = ((opsAt r42_7 [8])).headD default :: (opsAt r42_7 [8]).drop 1 := by kernel_rfl
set_option maxRecDepth 100000 in
set_option maxHeartbeats 0 in
theorem done_run {n i : Nat} {v nx : Int} {zs : List Z} {sp : List Value} {c : Nat} {hs : List Int} {hc2 : Nat} {hst : Stat} {x3 x4 : AObj} {z : Z} {k : Ch} (hz : zs[i]? = some z) (hsp : (flat zs ++ sp).length = c * 9) (hc : c < UNK) (hn : zs.length ≤ 1000) (hnx : 0 ≤ nx) (hep : 0 ≤ z.ep) (hal : ∀ m : Mem, m.alive hst = true) (hce : (hs.length == 0 && hc2 == UNK) = false) (hhn : hs.length ≤ 1000) :
    RunP ctx (cl (n + 3)) 42 b42 (initSlots [ptr 0 0, .int .i64 ((i : Nat) : Int), .agg ⟨k.cells⟩]) (mA v nx zs sp c hs hc2 hst x3 x4) (KPost v nx zs (.slice (some ⟨2, 0, none⟩) hs.length hc2) (some (.cells (ints hs) 1 hst)) (doneM nx zs i z k)) := by
  have hi : i < zs.length := (List.getElem?_eq_some_iff.1 hz).1
  rw [b42_eq]
  refine RunP.seq ?_
  refine RunP.region ?_
  refine OpsP.rest (by kernel_rfl) ?_
  refine RunP.seq ?_
  refine RunP.region ?_
  refine OpsP.take 6 (by kernel_rfl) ?_
  refine OpsP.stepAt hr42_1_0_6 (step_indexAddr (x := .tmp 18) (i := .tmp 19) (t := 28) (e := 39) (z := 9) (j := i) (n := zs.length) (c := c) (b := 1) (off := 0) (k := .i64) (iv := (((i : Nat) : Int))) (by kernel_rfl) (by kernel_rfl) (by kernel_rfl) (by kernel_rfl) (by kernel_rfl) (by kernel_rfl) rfl hi) ?_
  refine OpsP.stepAt hr42_1_7_7 (step_loadF (t := 39) (a := .tmp 20) (b := 1) (j := i) (f := 0) (n := 9) (ag := true) (st := .sole) (zs := zs) (rest := sp) (z := z) (v := .agg ⟨(z : Z).cells⟩) (by kernel_rfl) (by kernel_rfl) (by kernel_rfl) (by kernel_rfl) (by kernel_rfl) rfl hz (by decide) (by kernel_rfl)) ?_
  refine OpsP.rest (by kernel_rfl) ?_
  refine RunP.seq ?_
  refine RunP.seq ?_
  refine RunP.region ?_
  refine OpsP.take 2 (by kernel_rfl) ?_
  refine OpsP.boolT 24 hr42_2_0_2 (by kernel_rfl) (decide (z.pend = 0)) (by kernel_rfl) (fun q1 => ?_) fun q1 => ?_
  ·
    refine OpsP.rest (by kernel_rfl) ?_
    refine RunP.cond (t := true) (by kernel_rfl) (fun _ => ?_) fun h => by cases h
    refine RunP.seq ?_
    refine RunP.region ?_
    refine OpsP.rest (by kernel_rfl) ?_
    refine RunP.ret ?_
    have hM : doneM nx zs i z k = none := by simp only [doneM, doneS, doneG, q1] <;> rfl
    exact KPost.no hM rfl (by kernel_rfl) ⟨1, c, sp, by kernel_rfl, by kernel_rfl, .inl rfl, Nat.le_of_ble_eq_true (by kernel_rfl), by kernel_rfl, ⟨flat zs ++ sp, by kernel_rfl⟩, .inl ⟨hc, hsp.symm⟩⟩
  ·
    refine OpsP.take 5 (by kernel_rfl) ?_
    refine OpsP.boolN 30 hr42_2_3_8 (by kernel_rfl) (decide (z.ep = k.ep)) (by kernel_rfl) (fun q2 => ?_) fun q2 => ?_
    ·
      refine OpsP.take 4 (by kernel_rfl) ?_
      refine OpsP.boolT 35 hr42_2_9_13 (by kernel_rfl) (decide (1099511627776 ≤ z.ep)) (by kernel_rfl) (fun q3 => ?_) fun q3 => ?_
      ·
        refine OpsP.rest (by kernel_rfl) ?_
        refine RunP.cond (t := true) (by kernel_rfl) (fun _ => ?_) fun h => by cases h
        refine RunP.seq ?_
        refine RunP.region ?_
        refine OpsP.rest (by kernel_rfl) ?_
        refine RunP.ret ?_
        have hM : doneM nx zs i z k = none := by simp only [doneM, doneS, doneG, q1, q2, q3] <;> rfl
        exact KPost.no hM rfl (by kernel_rfl) ⟨1, c, sp, by kernel_rfl, by kernel_rfl, .inl rfl, Nat.le_of_ble_eq_true (by kernel_rfl), by kernel_rfl, ⟨flat zs ++ sp, by kernel_rfl⟩, .inl ⟨hc, hsp.symm⟩⟩
      ·
        refine OpsP.rest (by kernel_rfl) ?_
        refine RunP.cond (t := false) (by kernel_rfl) (fun h => by cases h) fun _ => ?_
        refine RunP.skip ?_
        refine RunP.seq ?_
        refine RunP.seq ?_
        refine RunP.region ?_
        refine OpsP.rest (by kernel_rfl) ?_
        refine RunP.block ?_
        refine RunP.seq ?_
        refine RunP.region ?_
        refine OpsP.boolT 56 hr42_8_0_0 (by kernel_rfl) (decide (z.pend = 1)) (by kernel_rfl) (fun q4 => ?_) fun q4 => ?_
        ·
          refine OpsP.rest (by kernel_rfl) ?_
          refine RunP.cond (t := true) (by kernel_rfl) (fun _ => ?_) fun h => by cases h
          refine RunP.seq ?_
          refine RunP.seq ?_
          refine RunP.region ?_
          refine OpsP.take 6 (by kernel_rfl) ?_
          refine OpsP.boolT 63 hr42_9_0_6 (by kernel_rfl) (decide (16 ≤ ((zs.length : Nat) : Int))) (by kernel_rfl) (fun q5 => ?_) fun q5 => ?_
          ·
            refine OpsP.nil ?_
            refine RunP.cond (t := true) (by kernel_rfl) (fun _ => ?_) fun h => by cases h
            refine RunP.seq ?_
            refine RunP.region ?_
            refine OpsP.rest (by kernel_rfl) ?_
            refine RunP.ret ?_
            have hM : doneM nx zs i z k = none := by simp only [doneM, doneS, doneG, q1, q2, q3, q4, q5] <;> rfl
            exact KPost.no hM rfl (by kernel_rfl) ⟨1, c, sp, by kernel_rfl, by kernel_rfl, .inl rfl, Nat.le_of_ble_eq_true (by kernel_rfl), by kernel_rfl, ⟨flat zs ++ sp, by kernel_rfl⟩, .inl ⟨hc, hsp.symm⟩⟩
          ·
            refine OpsP.nil ?_
            refine RunP.cond (t := false) (by kernel_rfl) (fun h => by cases h) fun _ => ?_
            refine RunP.skip ?_
            refine RunP.seq ?_
            refine RunP.plan plan42_11 (by kernel_rfl) (by kernel_rfl) ?_
            refine OpsP.take 3 (by kernel_rfl) ?_
            refine OpsP.stepAt hr42_11_0_1_2_3_5_6_7_8_10_11_0_3 (step_add (t := 3) (w := 3) (x := .tmp 66) (y := .const (.int .i64 1)) (k := .i64) (a := z.ep) (b := 1) (c := (z.ep + 1)) (by kernel_rfl) (by kernel_rfl) (by kernel_rfl) (by kernel_rfl) (wrap_p1 hep (by have := of_decide_eq_false q3; omega))) ?_
            refine OpsP.take 3 (by kernel_rfl) ?_
            refine OpsP.stepAt hr42_11_0_1_2_3_5_6_7_8_10_11_4_7 (step_add (t := 3) (w := 3) (x := .tmp 71) (y := .const (.int .i64 1)) (k := .i64) (a := z.ep) (b := 1) (c := (z.ep + 1)) (by kernel_rfl) (by kernel_rfl) (by kernel_rfl) (by kernel_rfl) (wrap_p1 hep (by have := of_decide_eq_false q3; omega))) ?_
            refine OpsP.rest (by kernel_rfl) ?_
            refine ⟨(again_k (v := .agg ⟨[.int .i64 (z.id), .string z.lo, .string z.hi, .int .i64 (z.own), .int .i64 (z.ep), .int .i64 (z.pend), .int .i64 (z.to), .string z.key, .int .i64 (z.new)]⟩) (d := 64) (by kernel_rfl) (by kernel_rfl) (by kernel_rfl) (by kernel_rfl) (by kernel_rfl) (veq_aggO (by kernel_rfl)) (again_k (v := .int .i64 (z.ep)) (d := 66) (by kernel_rfl) (by kernel_rfl) (by kernel_rfl) (by kernel_rfl) (by kernel_rfl) (veq_int _ _) (again_k (v := .agg ⟨[.int .i64 (z.id), .string z.lo, .string z.hi, .int .i64 (z.own), .int .i64 (z.ep), .int .i64 (z.pend), .int .i64 (z.to), .string z.key, .int .i64 (z.new)]⟩) (d := 69) (by kernel_rfl) (by kernel_rfl) (by kernel_rfl) (by kernel_rfl) (by kernel_rfl) (veq_aggO (by kernel_rfl)) (again_k (v := .int .i64 (z.ep)) (d := 71) (by kernel_rfl) (by kernel_rfl) (by kernel_rfl) (by kernel_rfl) (by kernel_rfl) (veq_int _ _) again_nil)))), ?_⟩
            refine OpsP.rest (by kernel_rfl) ?_
            refine ⟨(again_k (v := .agg ⟨[.int .i64 (z.id), .string z.lo, .string z.hi, .int .i64 (z.own), .int .i64 (z.ep), .int .i64 (z.pend), .int .i64 (z.to), .string z.key, .int .i64 (z.new)]⟩) (d := 69) (by kernel_rfl) (by kernel_rfl) (by kernel_rfl) (by kernel_rfl) (by kernel_rfl) (veq_aggO (by kernel_rfl)) (again_k (v := .int .i64 (z.ep)) (d := 71) (by kernel_rfl) (by kernel_rfl) (by kernel_rfl) (by kernel_rfl) (by kernel_rfl) (veq_int _ _) again_nil)), ?_⟩
            refine OpsP.rest (by kernel_rfl) ?_
            refine ⟨again_nil, ?_⟩
            refine OpsP.rest (by kernel_rfl) ?_
            refine ⟨again_nil, ?_⟩
            refine OpsP.rest (by kernel_rfl) ?_
            refine ⟨again_nil, ?_⟩
            refine RunP.seq ?_
            refine RunP.region ?_
            refine OpsP.take 4 (by kernel_rfl) ?_
            refine bool_by (cutB z.lo z.hi z.key) (fun q6 => ?_) fun q6 => ?_
            ·
              refine OpsP.stepAt hr42_12_0_4 (step_call (g := 75) (f := .func 75) (args := #[.tmp 76, .tmp 78]) (ats := #[37, 9]) (l := [.agg ⟨[.string z.lo, .string z.hi]⟩, .string z.key]) (by kernel_rfl) (by kernel_rfl) (by kernel_rfl) (by kernel_rfl) (call75_t q6)) ?_
              refine OpsP.rest (by kernel_rfl) ?_
              refine RunP.seq ?_
              refine RunP.region ?_
              refine OpsP.rest (by kernel_rfl) ?_
              refine RunP.seq ?_
              refine RunP.plan plan42_14 (by kernel_rfl) (by kernel_rfl) ?_
              refine OpsP.take 7 (by kernel_rfl) ?_
              refine OpsP.stepAt hr42_14_0_1_2_3_4_5_6_7_0_7 (step_indexAddr (x := .tmp 92) (i := .tmp 93) (t := 28) (e := 39) (z := 9) (j := i) (n := zs.length) (c := c) (b := 1) (off := 0) (k := .i64) (iv := (((i : Nat) : Int))) (by kernel_rfl) (by kernel_rfl) (by kernel_rfl) (by kernel_rfl) (by kernel_rfl) (by kernel_rfl) rfl hi) ?_
              refine OpsP.nil ?_
              refine ⟨(again_k (v := .slice (some ⟨1, 0, none⟩) zs.length c) (d := 92) (by kernel_rfl) (by kernel_rfl) (by kernel_rfl) (by kernel_rfl) (by kernel_rfl) (veq_slice (by kernel_rfl)) (again_k (v := .agg ⟨[.int .i64 (z.id), .string z.lo, .string z.key, .int .i64 (z.own), .int .i64 ((z.ep + 1)), .int .i64 0, .int .i64 0, .string nilS, .int .i64 0]⟩) (d := 94) (by kernel_rfl) (by kernel_rfl) (by kernel_rfl) (by kernel_rfl) (by kernel_rfl) (veq_aggO (by kernel_rfl)) again_nil)), ?_⟩
              refine OpsP.stepAt hr42_14_8_0_0 (step_storeF (t := 39) (a := .tmp 95) (x := .tmp 94) (b := 1) (j := i) (f := 0) (u := .agg ⟨({ z with hi := z.key, ep := (z.ep + 1), pend := 0, to := 0, key := nilS, new := 0 } : Z).cells⟩) (zs := zs) (rest := sp) (z := z) (z' := { z with hi := z.key, ep := (z.ep + 1), pend := 0, to := 0, key := nilS, new := 0 }) (by kernel_rfl) (by kernel_rfl) (by kernel_rfl) (by kernel_rfl) info39_eq (by kernel_rfl) (by kernel_rfl) (by kernel_rfl) hz (Nat.le_of_ble_eq_true (by kernel_rfl)) (by kernel_rfl) (by kernel_rfl)) ?_
              refine OpsP.nil ?_
              refine ⟨again_nil, ?_⟩
              refine RunP.plan plan42_15 (by kernel_rfl) (by kernel_rfl) ?_
              refine OpsP.take 7 (by kernel_rfl) ?_
              refine OpsP.stepAt hr42_15_0_1_2_3_4_5_6_7_8_9_0_7 (step_add (t := 3) (w := 3) (x := .tmp 102) (y := .const (.int .i64 1)) (k := .i64) (a := ((i : Nat) : Int)) (b := 1) (c := ((i + 1 : Nat) : Int)) (by kernel_rfl) (by kernel_rfl) (by kernel_rfl) (by kernel_rfl) (wrap_i1 (by omega))) ?_
              refine OpsP.rest (by kernel_rfl) ?_
              refine ⟨(again_k (v := .slice (some ⟨1, 0, none⟩) zs.length c) (d := 101) (by kernel_rfl) (by kernel_rfl) (by kernel_rfl) (by kernel_rfl) (by kernel_rfl) (veq_slice (by kernel_rfl)) (again_k (v := .agg ⟨[.int .i64 (z.new), .string z.key, .string z.hi, .int .i64 (z.own), .int .i64 ((z.ep + 1)), .int .i64 0, .int .i64 0, .string nilS, .int .i64 0]⟩) (d := 104) (by kernel_rfl) (by kernel_rfl) (by kernel_rfl) (by kernel_rfl) (by kernel_rfl) (veq_aggO (by kernel_rfl)) again_nil)), ?_⟩
              refine OpsP.callE hr42_15_10_11_12_13_0_0 (f := .func 79) (args := #[.tmp 101, .tmp 103, .tmp 105]) (ats := #[28, 3, 28]) (g := 79) (bs := [.slice (some ⟨1, 0, none⟩) zs.length c, .int .i64 (((i + 1 : Nat) : Int)), .slice (some ⟨13, 0, none⟩) 1 1]) (by kernel_rfl) (by kernel_rfl) (by kernel_rfl) (by kernel_rfl) (insert_call (z := 1) (v := 13) (b := { z with id := z.new, lo := z.key, ep := (z.ep + 1), pend := 0, to := 0, key := nilS, new := 0 }) (zs := (zs.set i { z with hi := z.key, ep := (z.ep + 1), pend := 0, to := 0, key := nilS, new := 0 })) (sp := sp) (c := c) (i := i + 1) (n := zs.length) (by kernel_rfl) (by kernel_rfl) (by decide) (Nat.le_of_ble_eq_true (by kernel_rfl)) (Nat.le_of_ble_eq_true (by kernel_rfl)) (by simp [flat_length] at hsp ⊢; omega) hc (by simp) hn hi) ?_
              rintro v' m' ⟨z', c', sp', rfl, g1, g2, g3, g4, g5, g7, g8, g6⟩
              have m0 : m'.get 0 = some (.cells (dirCells v nx 1 zs.length c (.slice (some ⟨2, 0, none⟩) hs.length hc2)) 4 .sole) := (g3 0 (by decide) (Nat.le_of_ble_eq_true (by kernel_rfl))).trans (by kernel_rfl)
              have m2 : m'.get 2 = some (.cells (ints hs) 1 hst) := (g3 2 (by decide) (Nat.le_of_ble_eq_true (by kernel_rfl))).trans (by kernel_rfl)
              have hz3 : z' = 1 ∨ 3 ≤ z' := g2.elim (fun h => .inl h) fun h => .inr (Nat.le_trans (Nat.le_of_ble_eq_true (by kernel_rfl)) (Nat.le_of_eq h.symm))
              clear g2 g3 g4 g5
              refine OpsP.restM (m1 := m') (by kernel_rfl) (by kernel_rfl) ?_
              refine ⟨again_nil, ?_⟩
              refine OpsP.stepAt hr42_15_14_0_0 (step_store (t := 28) (a := .tmp 109) (x := .tmp 106) (b := 0) (off := 2) (u := .slice (some ⟨z', 0, none⟩) (zs.length + 1) c') (by kernel_rfl) (by kernel_rfl) (by kernel_rfl) (by kernel_rfl) info28_eq (by kernel_rfl) (by kernel_rfl) (storeN_sole (o := 0) (off := 2) (vs := dirCells v nx 1 zs.length c (.slice (some ⟨2, 0, none⟩) hs.length hc2)) (e := 4) m0 (by simp [dirCells, Val.cells]) (by kernel_rfl))) ?_
              refine OpsP.nil ?_
              refine ⟨again_nil, ?_⟩
              refine RunP.seq ?_
              refine RunP.region ?_
              refine OpsP.restM (m1 := (m'.put 0 (.cells (splice (dirCells v nx 1 zs.length c (.slice (some ⟨2, 0, none⟩) hs.length hc2)) 2 (Val.cells (.slice (some ⟨z', 0, none⟩) (zs.length + 1) c'))) 4 .sole))) (by kernel_rfl) (by kernel_rfl) ?_
              refine RunP.ret ?_
              have hM : doneM nx zs i z k = some (nx, (zs.set i { z with hi := z.key, ep := (z.ep + 1), pend := 0, to := 0, key := nilS, new := 0 }).take (i + 1) ++ { z with id := z.new, lo := z.key, ep := (z.ep + 1), pend := 0, to := 0, key := nilS, new := 0 } :: (zs.set i { z with hi := z.key, ep := (z.ep + 1), pend := 0, to := 0, key := nilS, new := 0 }).drop (i + 1)) := by simp only [doneM, doneS, doneG, insL, delL, q1, q2, q3, q4, q5, q6] <;> rfl
              refine KPost.yes hM rfl (by kernel_rfl) ?_
              exact dirAt_ins (by simp; omega) m0 m2 g1 hz3 g7 g8 g6
            ·
              refine OpsP.stepAt hr42_12_0_4 (step_call (g := 75) (f := .func 75) (args := #[.tmp 76, .tmp 78]) (ats := #[37, 9]) (l := [.agg ⟨[.string z.lo, .string z.hi]⟩, .string z.key]) (by kernel_rfl) (by kernel_rfl) (by kernel_rfl) (by kernel_rfl) (call75_f q6)) ?_
              refine OpsP.rest (by kernel_rfl) ?_
              refine RunP.seq ?_
              refine RunP.region ?_
              refine OpsP.rest (by kernel_rfl) ?_
              refine RunP.seq ?_
              refine RunP.plan plan42_14 (by kernel_rfl) (by kernel_rfl) ?_
              refine OpsP.take 7 (by kernel_rfl) ?_
              refine OpsP.stepAt hr42_14_0_1_2_3_4_5_6_7_0_7 (step_indexAddr (x := .tmp 92) (i := .tmp 93) (t := 28) (e := 39) (z := 9) (j := i) (n := zs.length) (c := c) (b := 1) (off := 0) (k := .i64) (iv := (((i : Nat) : Int))) (by kernel_rfl) (by kernel_rfl) (by kernel_rfl) (by kernel_rfl) (by kernel_rfl) (by kernel_rfl) rfl hi) ?_
              refine OpsP.nil ?_
              refine ⟨(again_k (v := .slice (some ⟨1, 0, none⟩) zs.length c) (d := 92) (by kernel_rfl) (by kernel_rfl) (by kernel_rfl) (by kernel_rfl) (by kernel_rfl) (veq_slice (by kernel_rfl)) (again_k (v := .agg ⟨[.int .i64 (z.id), .string nilS, .string nilS, .int .i64 (z.own), .int .i64 ((z.ep + 1)), .int .i64 0, .int .i64 0, .string nilS, .int .i64 0]⟩) (d := 94) (by kernel_rfl) (by kernel_rfl) (by kernel_rfl) (by kernel_rfl) (by kernel_rfl) (veq_aggO (by kernel_rfl)) again_nil)), ?_⟩
              refine OpsP.stepAt hr42_14_8_0_0 (step_storeF (t := 39) (a := .tmp 95) (x := .tmp 94) (b := 1) (j := i) (f := 0) (u := .agg ⟨({ z with lo := nilS, hi := nilS, ep := (z.ep + 1), pend := 0, to := 0, key := nilS, new := 0 } : Z).cells⟩) (zs := zs) (rest := sp) (z := z) (z' := { z with lo := nilS, hi := nilS, ep := (z.ep + 1), pend := 0, to := 0, key := nilS, new := 0 }) (by kernel_rfl) (by kernel_rfl) (by kernel_rfl) (by kernel_rfl) info39_eq (by kernel_rfl) (by kernel_rfl) (by kernel_rfl) hz (Nat.le_of_ble_eq_true (by kernel_rfl)) (by kernel_rfl) (by kernel_rfl)) ?_
              refine OpsP.nil ?_
              refine ⟨again_nil, ?_⟩
              refine RunP.plan plan42_15 (by kernel_rfl) (by kernel_rfl) ?_
              refine OpsP.take 7 (by kernel_rfl) ?_
              refine OpsP.stepAt hr42_15_0_1_2_3_4_5_6_7_8_9_0_7 (step_add (t := 3) (w := 3) (x := .tmp 102) (y := .const (.int .i64 1)) (k := .i64) (a := ((i : Nat) : Int)) (b := 1) (c := ((i + 1 : Nat) : Int)) (by kernel_rfl) (by kernel_rfl) (by kernel_rfl) (by kernel_rfl) (wrap_i1 (by omega))) ?_
              refine OpsP.rest (by kernel_rfl) ?_
              refine ⟨(again_k (v := .slice (some ⟨1, 0, none⟩) zs.length c) (d := 101) (by kernel_rfl) (by kernel_rfl) (by kernel_rfl) (by kernel_rfl) (by kernel_rfl) (veq_slice (by kernel_rfl)) (again_k (v := .agg ⟨[.int .i64 (z.new), .string nilS, .string nilS, .int .i64 (z.own), .int .i64 ((z.ep + 1)), .int .i64 0, .int .i64 0, .string nilS, .int .i64 0]⟩) (d := 104) (by kernel_rfl) (by kernel_rfl) (by kernel_rfl) (by kernel_rfl) (by kernel_rfl) (veq_aggO (by kernel_rfl)) again_nil)), ?_⟩
              refine OpsP.callE hr42_15_10_11_12_13_0_0 (f := .func 79) (args := #[.tmp 101, .tmp 103, .tmp 105]) (ats := #[28, 3, 28]) (g := 79) (bs := [.slice (some ⟨1, 0, none⟩) zs.length c, .int .i64 (((i + 1 : Nat) : Int)), .slice (some ⟨13, 0, none⟩) 1 1]) (by kernel_rfl) (by kernel_rfl) (by kernel_rfl) (by kernel_rfl) (insert_call (z := 1) (v := 13) (b := { z with id := z.new, lo := nilS, hi := nilS, ep := (z.ep + 1), pend := 0, to := 0, key := nilS, new := 0 }) (zs := (zs.set i { z with lo := nilS, hi := nilS, ep := (z.ep + 1), pend := 0, to := 0, key := nilS, new := 0 })) (sp := sp) (c := c) (i := i + 1) (n := zs.length) (by kernel_rfl) (by kernel_rfl) (by decide) (Nat.le_of_ble_eq_true (by kernel_rfl)) (Nat.le_of_ble_eq_true (by kernel_rfl)) (by simp [flat_length] at hsp ⊢; omega) hc (by simp) hn hi) ?_
              rintro v' m' ⟨z', c', sp', rfl, g1, g2, g3, g4, g5, g7, g8, g6⟩
              have m0 : m'.get 0 = some (.cells (dirCells v nx 1 zs.length c (.slice (some ⟨2, 0, none⟩) hs.length hc2)) 4 .sole) := (g3 0 (by decide) (Nat.le_of_ble_eq_true (by kernel_rfl))).trans (by kernel_rfl)
              have m2 : m'.get 2 = some (.cells (ints hs) 1 hst) := (g3 2 (by decide) (Nat.le_of_ble_eq_true (by kernel_rfl))).trans (by kernel_rfl)
              have hz3 : z' = 1 ∨ 3 ≤ z' := g2.elim (fun h => .inl h) fun h => .inr (Nat.le_trans (Nat.le_of_ble_eq_true (by kernel_rfl)) (Nat.le_of_eq h.symm))
              clear g2 g3 g4 g5
              refine OpsP.restM (m1 := m') (by kernel_rfl) (by kernel_rfl) ?_
              refine ⟨again_nil, ?_⟩
              refine OpsP.stepAt hr42_15_14_0_0 (step_store (t := 28) (a := .tmp 109) (x := .tmp 106) (b := 0) (off := 2) (u := .slice (some ⟨z', 0, none⟩) (zs.length + 1) c') (by kernel_rfl) (by kernel_rfl) (by kernel_rfl) (by kernel_rfl) info28_eq (by kernel_rfl) (by kernel_rfl) (storeN_sole (o := 0) (off := 2) (vs := dirCells v nx 1 zs.length c (.slice (some ⟨2, 0, none⟩) hs.length hc2)) (e := 4) m0 (by simp [dirCells, Val.cells]) (by kernel_rfl))) ?_
              refine OpsP.nil ?_
              refine ⟨again_nil, ?_⟩
              refine RunP.seq ?_
              refine RunP.region ?_
              refine OpsP.restM (m1 := (m'.put 0 (.cells (splice (dirCells v nx 1 zs.length c (.slice (some ⟨2, 0, none⟩) hs.length hc2)) 2 (Val.cells (.slice (some ⟨z', 0, none⟩) (zs.length + 1) c'))) 4 .sole))) (by kernel_rfl) (by kernel_rfl) ?_
              refine RunP.ret ?_
              have hM : doneM nx zs i z k = some (nx, (zs.set i { z with lo := nilS, hi := nilS, ep := (z.ep + 1), pend := 0, to := 0, key := nilS, new := 0 }).take (i + 1) ++ { z with id := z.new, lo := nilS, hi := nilS, ep := (z.ep + 1), pend := 0, to := 0, key := nilS, new := 0 } :: (zs.set i { z with lo := nilS, hi := nilS, ep := (z.ep + 1), pend := 0, to := 0, key := nilS, new := 0 }).drop (i + 1)) := by simp only [doneM, doneS, doneG, insL, delL, q1, q2, q3, q4, q5, q6] <;> rfl
              refine KPost.yes hM rfl (by kernel_rfl) ?_
              exact dirAt_ins (by simp; omega) m0 m2 g1 hz3 g7 g8 g6
        ·
          refine OpsP.rest (by kernel_rfl) ?_
          refine RunP.cond (t := false) (by kernel_rfl) (fun h => by cases h) fun _ => ?_
          refine RunP.seq ?_
          refine RunP.region ?_
          refine OpsP.boolT 111 hr42_16_0_0 (by kernel_rfl) (decide (z.pend = 2)) (by kernel_rfl) (fun q7 => ?_) fun q7 => ?_
          ·
            refine OpsP.rest (by kernel_rfl) ?_
            refine RunP.cond (t := true) (by kernel_rfl) (fun _ => ?_) fun h => by cases h
            refine RunP.seq ?_
            refine RunP.seq ?_
            refine RunP.plan plan42_17 (by kernel_rfl) (by kernel_rfl) ?_
            refine OpsP.take 1 (by kernel_rfl) ?_
            refine OpsP.stepAt hr42_17_0_1_2_3_4_5_6_7_8_9_10_11_12_13_14_15_16_17_18_19_20_21_22_23_0_1 (step_add (t := 3) (w := 3) (x := .tmp 112) (y := .const (.int .i64 1)) (k := .i64) (a := ((i : Nat) : Int)) (b := 1) (c := ((i + 1 : Nat) : Int)) (by kernel_rfl) (by kernel_rfl) (by kernel_rfl) (by kernel_rfl) (wrap_i1 (by omega))) ?_
            refine OpsP.take 6 (by kernel_rfl) ?_
            refine OpsP.boolT 120 hr42_17_0_1_2_3_4_5_6_7_8_9_10_11_12_13_14_15_16_17_18_19_20_21_22_23_2_8 (by kernel_rfl) (decide (((zs.length : Nat) : Int) ≤ ((i + 1 : Nat) : Int))) (by kernel_rfl) (fun q8 => ?_) fun q8 => ?_
            ·
              have hnone : zs[i + 1]? = none := List.getElem?_eq_none (by have := of_decide_eq_true q8; omega)
              refine OpsP.rest (by kernel_rfl) ?_
              refine ⟨(again_k (v := .slice (some ⟨1, 0, none⟩) zs.length c) (d := 118) (by kernel_rfl) (by kernel_rfl) (by kernel_rfl) (by kernel_rfl) (by kernel_rfl) (veq_slice (by kernel_rfl)) (again_k (v := .int .i64 (((zs.length : Nat) : Int))) (d := 119) (by kernel_rfl) (by kernel_rfl) (by kernel_rfl) (by kernel_rfl) (by kernel_rfl) (veq_int _ _) (again_skip (by kernel_rfl) (by kernel_rfl) (again_skip (by kernel_rfl) (by kernel_rfl) (again_skip (by kernel_rfl) (by kernel_rfl) again_nil))))), ?_⟩
              refine RunP.cond (t := true) (by kernel_rfl) (fun _ => ?_) fun h => by cases h
              refine RunP.seq ?_
              refine RunP.region ?_
              refine OpsP.rest (by kernel_rfl) ?_
              refine RunP.ret ?_
              have hM : doneM nx zs i z k = none := by simp only [doneM, doneS, doneG, q1, q2, q3, q4, q7, q8, hnone] <;> rfl
              exact KPost.no hM rfl (by kernel_rfl) ⟨1, c, sp, by kernel_rfl, by kernel_rfl, .inl rfl, Nat.le_of_ble_eq_true (by kernel_rfl), by kernel_rfl, ⟨flat zs ++ sp, by kernel_rfl⟩, .inl ⟨hc, hsp.symm⟩⟩
            ·
              have hi1 : i + 1 < zs.length := by have := of_decide_eq_false q8; omega
              obtain ⟨y, hy⟩ : ∃ y, zs[i + 1]? = some y := ⟨_, List.getElem?_eq_getElem hi1⟩
              refine OpsP.take 7 (by kernel_rfl) ?_
              refine OpsP.stepAt hr42_17_0_1_2_3_4_5_6_7_8_9_10_11_12_13_14_15_16_17_18_19_20_21_22_23_9_16 (step_add (t := 3) (w := 3) (x := .tmp 127) (y := .const (.int .i64 1)) (k := .i64) (a := ((i : Nat) : Int)) (b := 1) (c := ((i + 1 : Nat) : Int)) (by kernel_rfl) (by kernel_rfl) (by kernel_rfl) (by kernel_rfl) (wrap_i1 (by omega))) ?_
              refine OpsP.stepAt hr42_17_0_1_2_3_4_5_6_7_8_9_10_11_12_13_14_15_16_17_18_19_20_21_22_23_17_17 (step_indexAddr (x := .tmp 126) (i := .tmp 128) (t := 28) (e := 39) (z := 9) (j := (i + 1)) (n := zs.length) (c := c) (b := 1) (off := 0) (k := .i64) (iv := (((i + 1 : Nat) : Int))) (by kernel_rfl) (by kernel_rfl) (by kernel_rfl) (by kernel_rfl) (by kernel_rfl) (by kernel_rfl) rfl hi1) ?_
              refine OpsP.take 1 (by kernel_rfl) ?_
              refine OpsP.stepAt hr42_17_0_1_2_3_4_5_6_7_8_9_10_11_12_13_14_15_16_17_18_19_20_21_22_23_18_19 (step_loadF (t := 3) (a := .tmp 130) (b := 1) (j := (i + 1)) (f := 0) (n := 1) (ag := false) (st := .sole) (zs := zs) (rest := sp) (z := y) (v := .int .i64 (y.id)) (by kernel_rfl) (by kernel_rfl) (by kernel_rfl) (by kernel_rfl) (by kernel_rfl) rfl hy (by decide) (by kernel_rfl)) ?_
              refine OpsP.take 2 (by kernel_rfl) ?_
              refine OpsP.boolN 134 hr42_17_0_1_2_3_4_5_6_7_8_9_10_11_12_13_14_15_16_17_18_19_20_21_22_23_20_22 (by kernel_rfl) (decide (y.id = z.new)) (by kernel_rfl) (fun q9 => ?_) fun q9 => ?_
              ·
                refine OpsP.rest (by kernel_rfl) ?_
                refine ⟨(again_k (v := .slice (some ⟨1, 0, none⟩) zs.length c) (d := 118) (by kernel_rfl) (by kernel_rfl) (by kernel_rfl) (by kernel_rfl) (by kernel_rfl) (veq_slice (by kernel_rfl)) (again_k (v := .int .i64 (((zs.length : Nat) : Int))) (d := 119) (by kernel_rfl) (by kernel_rfl) (by kernel_rfl) (by kernel_rfl) (by kernel_rfl) (veq_int _ _) (again_k (v := .slice (some ⟨1, 0, none⟩) zs.length c) (d := 126) (by kernel_rfl) (by kernel_rfl) (by kernel_rfl) (by kernel_rfl) (by kernel_rfl) (veq_slice (by kernel_rfl)) (again_k (v := .int .i64 (y.id)) (d := 131) (by kernel_rfl) (by kernel_rfl) (prim_loadF (t := 3) (a := .tmp 130) (b := 1) (j := (i + 1)) (f := 0) (n := 1) (ag := false) (st := .sole) (zs := zs) (rest := sp) (z := y) (v := .int .i64 (y.id)) (by kernel_rfl) (by kernel_rfl) (by kernel_rfl) (by kernel_rfl) rfl hy (by decide) (by kernel_rfl)) (by kernel_rfl) (by kernel_rfl) (veq_int _ _) (again_k (v := .int .i64 (z.new)) (d := 133) (by kernel_rfl) (by kernel_rfl) (by kernel_rfl) (by kernel_rfl) (by kernel_rfl) (veq_int _ _) again_nil))))), ?_⟩
                refine RunP.cond (t := false) (by kernel_rfl) (fun h => by cases h) fun _ => ?_
                refine RunP.skip ?_
                refine RunP.seq ?_
                refine RunP.region ?_
                refine OpsP.take 6 (by kernel_rfl) ?_
                refine OpsP.stepAt hr42_19_0_6 (step_add (t := 3) (w := 3) (x := .tmp 141) (y := .const (.int .i64 1)) (k := .i64) (a := ((i : Nat) : Int)) (b := 1) (c := ((i + 1 : Nat) : Int)) (by kernel_rfl) (by kernel_rfl) (by kernel_rfl) (by kernel_rfl) (wrap_i1 (by omega))) ?_
                refine OpsP.stepAt hr42_19_7_7 (step_indexAddr (x := .tmp 140) (i := .tmp 142) (t := 28) (e := 39) (z := 9) (j := (i + 1)) (n := zs.length) (c := c) (b := 1) (off := 0) (k := .i64) (iv := (((i + 1 : Nat) : Int))) (by kernel_rfl) (by kernel_rfl) (by kernel_rfl) (by kernel_rfl) (by kernel_rfl) (by kernel_rfl) rfl hi1) ?_
                refine OpsP.stepAt hr42_19_8_8 (step_loadF (t := 39) (a := .tmp 143) (b := 1) (j := (i + 1)) (f := 0) (n := 9) (ag := true) (st := .sole) (zs := zs) (rest := sp) (z := y) (v := .agg ⟨(y : Z).cells⟩) (by kernel_rfl) (by kernel_rfl) (by kernel_rfl) (by kernel_rfl) (by kernel_rfl) rfl hy (by decide) (by kernel_rfl)) ?_
                refine OpsP.rest (by kernel_rfl) ?_
                refine RunP.seq ?_
                refine RunP.region ?_
                refine OpsP.take 4 (by kernel_rfl) ?_
                refine OpsP.stepAt hr42_20_0_4 (step_max (x := .tmp 146) (y := .tmp 148) (ts := #[3, 3]) (k := .i64) (a := z.ep) (b := y.ep) (by kernel_rfl) (by kernel_rfl) (by kernel_rfl) (by kernel_rfl)) ?_
                refine OpsP.rest (by kernel_rfl) ?_
                refine RunP.seq ?_
                refine RunP.seq ?_
                refine RunP.region ?_
                refine OpsP.take 1 (by kernel_rfl) ?_
                refine OpsP.boolT 151 hr42_21_0_1 (by kernel_rfl) (decide (1099511627776 ≤ (mx z.ep y.ep))) (by kernel_rfl) (fun q10 => ?_) fun q10 => ?_
                ·
                  refine OpsP.nil ?_
                  refine RunP.cond (t := true) (by kernel_rfl) (fun _ => ?_) fun h => by cases h
                  refine RunP.seq ?_
                  refine RunP.region ?_
                  refine OpsP.rest (by kernel_rfl) ?_
                  refine RunP.ret ?_
                  have hM : doneM nx zs i z k = none := by simp only [doneM, doneS, doneG, q1, q2, q3, q4, q7, q8, hy, q9, q10] <;> rfl
                  exact KPost.no hM rfl (by kernel_rfl) ⟨1, c, sp, by kernel_rfl, by kernel_rfl, .inl rfl, Nat.le_of_ble_eq_true (by kernel_rfl), by kernel_rfl, ⟨flat zs ++ sp, by kernel_rfl⟩, .inl ⟨hc, hsp.symm⟩⟩
                ·
                  refine OpsP.nil ?_
                  refine RunP.cond (t := false) (by kernel_rfl) (fun h => by cases h) fun _ => ?_
                  refine RunP.skip ?_
                  refine RunP.seq ?_
                  refine RunP.region ?_
                  refine OpsP.take 2 (by kernel_rfl) ?_
                  refine OpsP.stepAt hr42_23_0_2 (step_add (t := 3) (w := 3) (x := .tmp 153) (y := .const (.int .i64 1)) (k := .i64) (a := (mx z.ep y.ep)) (b := 1) (c := ((mx z.ep y.ep) + 1)) (by kernel_rfl) (by kernel_rfl) (by kernel_rfl) (by kernel_rfl) (wrap_p1 (mx_nonneg hep) (by have := of_decide_eq_false q10; omega))) ?_
                  refine OpsP.rest (by kernel_rfl) ?_
                  refine RunP.seq ?_
                  refine RunP.region ?_
                  refine OpsP.take 4 (by kernel_rfl) ?_
                  refine bool_by (joinB z.lo z.hi y.lo y.hi) (fun q11 => ?_) fun q11 => ?_
                  ·
                    refine OpsP.stepAt hr42_24_0_4 (step_call (g := 80) (f := .func 80) (args := #[.tmp 158, .tmp 160]) (ats := #[37, 37]) (l := [.agg ⟨[.string z.lo, .string z.hi]⟩, .agg ⟨[.string y.lo, .string y.hi]⟩]) (by kernel_rfl) (by kernel_rfl) (by kernel_rfl) (by kernel_rfl) (call80_t q11)) ?_
                    refine OpsP.rest (by kernel_rfl) ?_
                    refine RunP.seq ?_
                    refine RunP.plan plan42_25 (by kernel_rfl) (by kernel_rfl) ?_
                    refine OpsP.take 7 (by kernel_rfl) ?_
                    refine OpsP.stepAt hr42_25_0_1_2_3_4_5_6_7_0_7 (step_indexAddr (x := .tmp 169) (i := .tmp 170) (t := 28) (e := 39) (z := 9) (j := i) (n := zs.length) (c := c) (b := 1) (off := 0) (k := .i64) (iv := (((i : Nat) : Int))) (by kernel_rfl) (by kernel_rfl) (by kernel_rfl) (by kernel_rfl) (by kernel_rfl) (by kernel_rfl) rfl hi) ?_
                    refine OpsP.nil ?_
                    refine ⟨(again_k (v := .slice (some ⟨1, 0, none⟩) zs.length c) (d := 169) (by kernel_rfl) (by kernel_rfl) (by kernel_rfl) (by kernel_rfl) (by kernel_rfl) (veq_slice (by kernel_rfl)) (again_k (v := .agg ⟨[.int .i64 (z.id), .string z.lo, .string y.hi, .int .i64 (z.own), .int .i64 (((mx z.ep y.ep) + 1)), .int .i64 0, .int .i64 0, .string nilS, .int .i64 0]⟩) (d := 171) (by kernel_rfl) (by kernel_rfl) (by kernel_rfl) (by kernel_rfl) (by kernel_rfl) (veq_aggO (by kernel_rfl)) again_nil)), ?_⟩
                    refine OpsP.stepAt hr42_25_8_0_0 (step_storeF (t := 39) (a := .tmp 172) (x := .tmp 171) (b := 1) (j := i) (f := 0) (u := .agg ⟨({ z with hi := y.hi, ep := ((mx z.ep y.ep) + 1), pend := 0, to := 0, key := nilS, new := 0 } : Z).cells⟩) (zs := zs) (rest := sp) (z := z) (z' := { z with hi := y.hi, ep := ((mx z.ep y.ep) + 1), pend := 0, to := 0, key := nilS, new := 0 }) (by kernel_rfl) (by kernel_rfl) (by kernel_rfl) (by kernel_rfl) info39_eq (by kernel_rfl) (by kernel_rfl) (by kernel_rfl) hz (Nat.le_of_ble_eq_true (by kernel_rfl)) (by kernel_rfl) (by kernel_rfl)) ?_
                    refine OpsP.nil ?_
                    refine ⟨again_nil, ?_⟩
                    refine RunP.region ?_
                    refine OpsP.take 7 (by kernel_rfl) ?_
                    refine OpsP.stepAt hr42_26_0_7 (step_add (t := 3) (w := 3) (x := .tmp 179) (y := .const (.int .i64 1)) (k := .i64) (a := ((i : Nat) : Int)) (b := 1) (c := ((i + 1 : Nat) : Int)) (by kernel_rfl) (by kernel_rfl) (by kernel_rfl) (by kernel_rfl) (wrap_i1 (by omega))) ?_
                    refine OpsP.take 1 (by kernel_rfl) ?_
                    refine OpsP.stepAt hr42_26_8_9 (step_add (t := 3) (w := 3) (x := .tmp 181) (y := .const (.int .i64 2)) (k := .i64) (a := ((i : Nat) : Int)) (b := 2) (c := ((i + 1 + 1 : Nat) : Int)) (by kernel_rfl) (by kernel_rfl) (by kernel_rfl) (by kernel_rfl) (wrap_i2 (by omega))) ?_
                    refine OpsP.callE hr42_26_10_10 (f := .func 81) (args := #[.tmp 178, .tmp 180, .tmp 182]) (ats := #[28, 3, 3]) (g := 81) (bs := [.slice (some ⟨1, 0, none⟩) zs.length c, .int .i64 (((i + 1 : Nat) : Int)), .int .i64 (((i + 1 + 1 : Nat) : Int))]) (by kernel_rfl) (by kernel_rfl) (by kernel_rfl) (by kernel_rfl) (delete_call (z := 1) (zs := (zs.set i { z with hi := y.hi, ep := ((mx z.ep y.ep) + 1), pend := 0, to := 0, key := nilS, new := 0 })) (sp := sp) (c := c) (i := i + 1) (n := zs.length) (by kernel_rfl) (by simp [flat_length] at hsp ⊢; omega) hc (by simp) hn hi1) ?_
                    rintro v' m' ⟨rfl, g1, g3, g4⟩
                    have m0 : m'.get 0 = some (.cells (dirCells v nx 1 zs.length c (.slice (some ⟨2, 0, none⟩) hs.length hc2)) 4 .sole) := (g3 0 (by decide)).trans (by kernel_rfl)
                    have m2 : m'.get 2 = some (.cells (ints hs) 1 hst) := (g3 2 (by decide)).trans (by kernel_rfl)
                    have g5 : 1 < m'.next := Nat.lt_of_lt_of_eq (Nat.le_of_ble_eq_true (by kernel_rfl)) g4.symm
                    clear g3 g4
                    refine OpsP.takeM (m1 := m') 3 (by kernel_rfl) (by kernel_rfl) ?_
                    refine OpsP.stepAt hr42_26_11_14 (step_store (t := 28) (a := .tmp 186) (x := .tmp 183) (b := 0) (off := 2) (u := .slice (some ⟨1, 0, none⟩) (zs.length - 1) c) (by kernel_rfl) (by kernel_rfl) (by kernel_rfl) (by kernel_rfl) info28_eq (by kernel_rfl) (by kernel_rfl) (storeN_sole (o := 0) (off := 2) (vs := dirCells v nx 1 zs.length c (.slice (some ⟨2, 0, none⟩) hs.length hc2)) (e := 4) m0 (by simp [dirCells, Val.cells]) (by kernel_rfl))) ?_
                    refine OpsP.nil ?_
                    refine RunP.seq ?_
                    refine RunP.region ?_
                    refine OpsP.restM (m1 := (m'.put 0 (.cells (splice (dirCells v nx 1 zs.length c (.slice (some ⟨2, 0, none⟩) hs.length hc2)) 2 (Val.cells (.slice (some ⟨1, 0, none⟩) (zs.length - 1) c))) 4 .sole))) (by kernel_rfl) (by kernel_rfl) ?_
                    refine RunP.ret ?_
                    have hM : doneM nx zs i z k = some (nx, (zs.set i { z with hi := y.hi, ep := ((mx z.ep y.ep) + 1), pend := 0, to := 0, key := nilS, new := 0 }).take (i + 1) ++ (zs.set i { z with hi := y.hi, ep := ((mx z.ep y.ep) + 1), pend := 0, to := 0, key := nilS, new := 0 }).drop (i + 1 + 1)) := by simp only [doneM, doneS, doneG, insL, delL, q1, q2, q3, q4, q7, q8, hy, q9, q10, q11] <;> rfl
                    refine KPost.yes hM rfl (by kernel_rfl) ?_
                    exact dirAt_del (by simp; omega) m0 m2 g1 hc (by simp [flat_length, cells_length] at hsp ⊢; omega) g5
                  ·
                    refine OpsP.stepAt hr42_24_0_4 (step_call (g := 80) (f := .func 80) (args := #[.tmp 158, .tmp 160]) (ats := #[37, 37]) (l := [.agg ⟨[.string z.lo, .string z.hi]⟩, .agg ⟨[.string y.lo, .string y.hi]⟩]) (by kernel_rfl) (by kernel_rfl) (by kernel_rfl) (by kernel_rfl) (call80_f q11)) ?_
                    refine OpsP.rest (by kernel_rfl) ?_
                    refine RunP.seq ?_
                    refine RunP.plan plan42_25 (by kernel_rfl) (by kernel_rfl) ?_
                    refine OpsP.take 7 (by kernel_rfl) ?_
                    refine OpsP.stepAt hr42_25_0_1_2_3_4_5_6_7_0_7 (step_indexAddr (x := .tmp 169) (i := .tmp 170) (t := 28) (e := 39) (z := 9) (j := i) (n := zs.length) (c := c) (b := 1) (off := 0) (k := .i64) (iv := (((i : Nat) : Int))) (by kernel_rfl) (by kernel_rfl) (by kernel_rfl) (by kernel_rfl) (by kernel_rfl) (by kernel_rfl) rfl hi) ?_
                    refine OpsP.nil ?_
                    refine ⟨(again_k (v := .slice (some ⟨1, 0, none⟩) zs.length c) (d := 169) (by kernel_rfl) (by kernel_rfl) (by kernel_rfl) (by kernel_rfl) (by kernel_rfl) (veq_slice (by kernel_rfl)) (again_k (v := .agg ⟨[.int .i64 (z.id), .string nilS, .string nilS, .int .i64 (z.own), .int .i64 (((mx z.ep y.ep) + 1)), .int .i64 0, .int .i64 0, .string nilS, .int .i64 0]⟩) (d := 171) (by kernel_rfl) (by kernel_rfl) (by kernel_rfl) (by kernel_rfl) (by kernel_rfl) (veq_aggO (by kernel_rfl)) again_nil)), ?_⟩
                    refine OpsP.stepAt hr42_25_8_0_0 (step_storeF (t := 39) (a := .tmp 172) (x := .tmp 171) (b := 1) (j := i) (f := 0) (u := .agg ⟨({ z with lo := nilS, hi := nilS, ep := ((mx z.ep y.ep) + 1), pend := 0, to := 0, key := nilS, new := 0 } : Z).cells⟩) (zs := zs) (rest := sp) (z := z) (z' := { z with lo := nilS, hi := nilS, ep := ((mx z.ep y.ep) + 1), pend := 0, to := 0, key := nilS, new := 0 }) (by kernel_rfl) (by kernel_rfl) (by kernel_rfl) (by kernel_rfl) info39_eq (by kernel_rfl) (by kernel_rfl) (by kernel_rfl) hz (Nat.le_of_ble_eq_true (by kernel_rfl)) (by kernel_rfl) (by kernel_rfl)) ?_
                    refine OpsP.nil ?_
                    refine ⟨again_nil, ?_⟩
                    refine RunP.region ?_
                    refine OpsP.take 7 (by kernel_rfl) ?_
                    refine OpsP.stepAt hr42_26_0_7 (step_add (t := 3) (w := 3) (x := .tmp 179) (y := .const (.int .i64 1)) (k := .i64) (a := ((i : Nat) : Int)) (b := 1) (c := ((i + 1 : Nat) : Int)) (by kernel_rfl) (by kernel_rfl) (by kernel_rfl) (by kernel_rfl) (wrap_i1 (by omega))) ?_
                    refine OpsP.take 1 (by kernel_rfl) ?_
                    refine OpsP.stepAt hr42_26_8_9 (step_add (t := 3) (w := 3) (x := .tmp 181) (y := .const (.int .i64 2)) (k := .i64) (a := ((i : Nat) : Int)) (b := 2) (c := ((i + 1 + 1 : Nat) : Int)) (by kernel_rfl) (by kernel_rfl) (by kernel_rfl) (by kernel_rfl) (wrap_i2 (by omega))) ?_
                    refine OpsP.callE hr42_26_10_10 (f := .func 81) (args := #[.tmp 178, .tmp 180, .tmp 182]) (ats := #[28, 3, 3]) (g := 81) (bs := [.slice (some ⟨1, 0, none⟩) zs.length c, .int .i64 (((i + 1 : Nat) : Int)), .int .i64 (((i + 1 + 1 : Nat) : Int))]) (by kernel_rfl) (by kernel_rfl) (by kernel_rfl) (by kernel_rfl) (delete_call (z := 1) (zs := (zs.set i { z with lo := nilS, hi := nilS, ep := ((mx z.ep y.ep) + 1), pend := 0, to := 0, key := nilS, new := 0 })) (sp := sp) (c := c) (i := i + 1) (n := zs.length) (by kernel_rfl) (by simp [flat_length] at hsp ⊢; omega) hc (by simp) hn hi1) ?_
                    rintro v' m' ⟨rfl, g1, g3, g4⟩
                    have m0 : m'.get 0 = some (.cells (dirCells v nx 1 zs.length c (.slice (some ⟨2, 0, none⟩) hs.length hc2)) 4 .sole) := (g3 0 (by decide)).trans (by kernel_rfl)
                    have m2 : m'.get 2 = some (.cells (ints hs) 1 hst) := (g3 2 (by decide)).trans (by kernel_rfl)
                    have g5 : 1 < m'.next := Nat.lt_of_lt_of_eq (Nat.le_of_ble_eq_true (by kernel_rfl)) g4.symm
                    clear g3 g4
                    refine OpsP.takeM (m1 := m') 3 (by kernel_rfl) (by kernel_rfl) ?_
                    refine OpsP.stepAt hr42_26_11_14 (step_store (t := 28) (a := .tmp 186) (x := .tmp 183) (b := 0) (off := 2) (u := .slice (some ⟨1, 0, none⟩) (zs.length - 1) c) (by kernel_rfl) (by kernel_rfl) (by kernel_rfl) (by kernel_rfl) info28_eq (by kernel_rfl) (by kernel_rfl) (storeN_sole (o := 0) (off := 2) (vs := dirCells v nx 1 zs.length c (.slice (some ⟨2, 0, none⟩) hs.length hc2)) (e := 4) m0 (by simp [dirCells, Val.cells]) (by kernel_rfl))) ?_
                    refine OpsP.nil ?_
                    refine RunP.seq ?_
                    refine RunP.region ?_
                    refine OpsP.restM (m1 := (m'.put 0 (.cells (splice (dirCells v nx 1 zs.length c (.slice (some ⟨2, 0, none⟩) hs.length hc2)) 2 (Val.cells (.slice (some ⟨1, 0, none⟩) (zs.length - 1) c))) 4 .sole))) (by kernel_rfl) (by kernel_rfl) ?_
                    refine RunP.ret ?_
                    have hM : doneM nx zs i z k = some (nx, (zs.set i { z with lo := nilS, hi := nilS, ep := ((mx z.ep y.ep) + 1), pend := 0, to := 0, key := nilS, new := 0 }).take (i + 1) ++ (zs.set i { z with lo := nilS, hi := nilS, ep := ((mx z.ep y.ep) + 1), pend := 0, to := 0, key := nilS, new := 0 }).drop (i + 1 + 1)) := by simp only [doneM, doneS, doneG, insL, delL, q1, q2, q3, q4, q7, q8, hy, q9, q10, q11] <;> rfl
                    refine KPost.yes hM rfl (by kernel_rfl) ?_
                    exact dirAt_del (by simp; omega) m0 m2 g1 hc (by simp [flat_length, cells_length] at hsp ⊢; omega) g5
              ·
                refine OpsP.rest (by kernel_rfl) ?_
                refine ⟨(again_k (v := .slice (some ⟨1, 0, none⟩) zs.length c) (d := 118) (by kernel_rfl) (by kernel_rfl) (by kernel_rfl) (by kernel_rfl) (by kernel_rfl) (veq_slice (by kernel_rfl)) (again_k (v := .int .i64 (((zs.length : Nat) : Int))) (d := 119) (by kernel_rfl) (by kernel_rfl) (by kernel_rfl) (by kernel_rfl) (by kernel_rfl) (veq_int _ _) (again_k (v := .slice (some ⟨1, 0, none⟩) zs.length c) (d := 126) (by kernel_rfl) (by kernel_rfl) (by kernel_rfl) (by kernel_rfl) (by kernel_rfl) (veq_slice (by kernel_rfl)) (again_k (v := .int .i64 (y.id)) (d := 131) (by kernel_rfl) (by kernel_rfl) (prim_loadF (t := 3) (a := .tmp 130) (b := 1) (j := (i + 1)) (f := 0) (n := 1) (ag := false) (st := .sole) (zs := zs) (rest := sp) (z := y) (v := .int .i64 (y.id)) (by kernel_rfl) (by kernel_rfl) (by kernel_rfl) (by kernel_rfl) rfl hy (by decide) (by kernel_rfl)) (by kernel_rfl) (by kernel_rfl) (veq_int _ _) (again_k (v := .int .i64 (z.new)) (d := 133) (by kernel_rfl) (by kernel_rfl) (by kernel_rfl) (by kernel_rfl) (by kernel_rfl) (veq_int _ _) again_nil))))), ?_⟩
                refine RunP.cond (t := true) (by kernel_rfl) (fun _ => ?_) fun h => by cases h
                refine RunP.seq ?_
                refine RunP.region ?_
                refine OpsP.rest (by kernel_rfl) ?_
                refine RunP.ret ?_
                have hM : doneM nx zs i z k = none := by simp only [doneM, doneS, doneG, q1, q2, q3, q4, q7, q8, hy, q9] <;> rfl
                exact KPost.no hM rfl (by kernel_rfl) ⟨1, c, sp, by kernel_rfl, by kernel_rfl, .inl rfl, Nat.le_of_ble_eq_true (by kernel_rfl), by kernel_rfl, ⟨flat zs ++ sp, by kernel_rfl⟩, .inl ⟨hc, hsp.symm⟩⟩
          ·
            refine OpsP.rest (by kernel_rfl) ?_
            refine RunP.cond (t := false) (by kernel_rfl) (fun h => by cases h) fun _ => ?_
            refine RunP.seq ?_
            refine RunP.region ?_
            refine OpsP.take 3 (by kernel_rfl) ?_
            refine OpsP.stepAt hr42_5_0_3 (step_add (t := 3) (w := 3) (x := .tmp 41) (y := .const (.int .i64 1)) (k := .i64) (a := z.ep) (b := 1) (c := (z.ep + 1)) (by kernel_rfl) (by kernel_rfl) (by kernel_rfl) (by kernel_rfl) (wrap_p1 hep (by have := of_decide_eq_false q3; omega))) ?_
            refine OpsP.rest (by kernel_rfl) ?_
            refine RunP.seq ?_
            refine RunP.region ?_
            refine OpsP.rest (by kernel_rfl) ?_
            refine RunP.plan plan42_7 (by kernel_rfl) (by kernel_rfl) ?_
            refine OpsP.take 7 (by kernel_rfl) ?_
            refine OpsP.stepAt hr42_7_0_1_2_3_4_5_6_7_0_7 (step_indexAddr (x := .tmp 51) (i := .tmp 52) (t := 28) (e := 39) (z := 9) (j := i) (n := zs.length) (c := c) (b := 1) (off := 0) (k := .i64) (iv := (((i : Nat) : Int))) (by kernel_rfl) (by kernel_rfl) (by kernel_rfl) (by kernel_rfl) (by kernel_rfl) (by kernel_rfl) rfl hi) ?_
            refine OpsP.nil ?_
            refine ⟨(again_k (v := .slice (some ⟨1, 0, none⟩) zs.length c) (d := 51) (by kernel_rfl) (by kernel_rfl) (by kernel_rfl) (by kernel_rfl) (by kernel_rfl) (veq_slice (by kernel_rfl)) (again_k (v := .agg ⟨[.int .i64 (z.id), .string z.lo, .string z.hi, .int .i64 (z.to), .int .i64 ((z.ep + 1)), .int .i64 0, .int .i64 0, .string nilS, .int .i64 0]⟩) (d := 53) (by kernel_rfl) (by kernel_rfl) (by kernel_rfl) (by kernel_rfl) (by kernel_rfl) (veq_aggO (by kernel_rfl)) again_nil)), ?_⟩
            refine OpsP.stepAt hr42_7_8_0_0 (step_storeF (t := 39) (a := .tmp 54) (x := .tmp 53) (b := 1) (j := i) (f := 0) (u := .agg ⟨({ z with own := z.to, ep := (z.ep + 1), pend := 0, to := 0, key := nilS, new := 0 } : Z).cells⟩) (zs := zs) (rest := sp) (z := z) (z' := { z with own := z.to, ep := (z.ep + 1), pend := 0, to := 0, key := nilS, new := 0 }) (by kernel_rfl) (by kernel_rfl) (by kernel_rfl) (by kernel_rfl) info39_eq (by kernel_rfl) (by kernel_rfl) (by kernel_rfl) hz (Nat.le_of_ble_eq_true (by kernel_rfl)) (by kernel_rfl) (by kernel_rfl)) ?_
            refine OpsP.nil ?_
            refine ⟨again_nil, ?_⟩
            refine RunP.seq ?_
            refine RunP.region ?_
            refine OpsP.rest (by kernel_rfl) ?_
            refine RunP.ret ?_
            have hM : doneM nx zs i z k = some (nx, zs.set i { z.ended (z.ep + 1) with own := z.to }) := by unfold doneM; simp only [q1, q2, q3, q4, q7] <;> rfl
            exact KPost.yes hM rfl (by kernel_rfl) ⟨1, c, sp, Eq.trans (b := some (.cells (dirCells v (nx) 1 zs.length c (.slice (some ⟨2, 0, none⟩) hs.length hc2)) 4 .sole)) (by kernel_rfl) (by simp), Eq.trans (b := some (.cells (flat (zs.set i { z with own := z.to, ep := (z.ep + 1), pend := 0, to := 0, key := nilS, new := 0 }) ++ sp) 9 .sole)) (by kernel_rfl) (by simp [List.set_set, Z.ended]), .inl rfl, Nat.le_of_ble_eq_true (by kernel_rfl), by kernel_rfl, ⟨flat (zs.set i { z with own := z.to, ep := (z.ep + 1), pend := 0, to := 0, key := nilS, new := 0 }) ++ sp, by kernel_rfl⟩, .inl ⟨hc, by simp [flat_length] at hsp ⊢; omega⟩⟩
    ·
      refine OpsP.rest (by kernel_rfl) ?_
      refine RunP.cond (t := true) (by kernel_rfl) (fun _ => ?_) fun h => by cases h
      refine RunP.seq ?_
      refine RunP.region ?_
      refine OpsP.rest (by kernel_rfl) ?_
      refine RunP.ret ?_
      have hM : doneM nx zs i z k = none := by simp only [doneM, doneS, doneG, q1, q2] <;> rfl
      exact KPost.no hM rfl (by kernel_rfl) ⟨1, c, sp, by kernel_rfl, by kernel_rfl, .inl rfl, Nat.le_of_ble_eq_true (by kernel_rfl), by kernel_rfl, ⟨flat zs ++ sp, by kernel_rfl⟩, .inl ⟨hc, hsp.symm⟩⟩

end Go.Ev.Dir

namespace Go.Ev.Dir
open Go.Ev Go.Proofs
set_option linter.unusedSectionVars false
set_option linter.unusedVariables false
set_option linter.unusedSimpArgs false

def kindsO : AObj := .cells [.nilFunc, .func (.func 39) ⟨[]⟩ ⟨[]⟩, .func (.func 40) ⟨[]⟩ ⟨[]⟩, .func (.func 41) ⟨[]⟩ ⟨[]⟩, .func (.func 42) ⟨[]⟩ ⟨[]⟩, .func (.func 43) ⟨[]⟩ ⟨[]⟩] 6 .sole

theorem opt_by {α : Type} {Q : Prop} (o : Option α) (h0 : o = none → Q) (h1 : ∀ x, o = some x → Q) : Q := by
  cases o with
  | none => exact h0 rfl
  | some x => exact h1 x rfl

variable [Atoms]

/-- what a kind of change answers -/
def KRes (v nx : Int) (zs : List Z) (h : Value) (ho : Option AObj) (o : Option (Int × List Z)) (u : Value) (m : Mem) : Prop :=
  u = .bool o.isSome ∧ DirAt m v (match o with | some x => x.1 | none => nx) (match o with | some x => x.2 | none => zs) h ho
theorem KRes.no {r : Ret} {v nx : Int} {zs : List Z} {h : Value} {ho : Option AObj} {o : Option (Int × List Z)} (hr : ∃ u m', r = some (u, m') ∧ KRes v nx zs h ho o u m') (hM : o = none) : ∃ u m', r = some (u, m') ∧ (u = .bool false ∧ DirAt m' v nx zs h ho) := by
  subst hM; exact hr
theorem KRes.yes {r : Ret} {v nx : Int} {zs : List Z} {h : Value} {ho : Option AObj} {o : Option (Int × List Z)} {x : Int × List Z} (hr : ∃ u m', r = some (u, m') ∧ KRes v nx zs h ho o u m') (hM : o = some x) : ∃ u m', r = some (u, m') ∧ (u = .bool true ∧ DirAt m' v x.1 x.2 h ho) := by
  subst hM; exact hr

def kindM (nx : Int) (zs : List Z) (i : Nat) (z : Z) (k : Ch) (hs : List Int) : Option (Int × List Z) :=
  bif decide (k.kind = 1) then splitM nx zs i z k else bif decide (k.kind = 2) then mergeM nx zs i z else bif decide (k.kind = 3) then moveM nx zs i z k hs else bif decide (k.kind = 4) then doneM nx zs i z k else bif decide (k.kind = 5) then abortM nx zs i z k else none
/-- what Apply leaves: the version, the next number, the zones -/
def applyM (v nx : Int) (zs : List Z) (hs : List Int) (k : Ch) : Option (Int × Int × List Z) :=
  bif mayC k && !decide (1099511627776 ≤ v) then
    (bif decide (findM zs k.zone < 0) then none else match zs[(findM zs k.zone).toNat]? with
      | none => none
      | some z => match kindM nx zs (findM zs k.zone).toNat z k hs with
        | none => none
        | some x => some (v + 1, x.1, x.2)) else none

def APost (v nx : Int) (zs : List Z) (h : Value) (ho : Option AObj) (o : Option (Int × Int × List Z)) (e : Ex) (s : Slots) (m : Mem) : Prop :=
  e = .ret ∧ s.get 4 = .bool o.isSome ∧ DirAt m (match o with | some x => x.1 | none => v) (match o with | some x => x.2.1 | none => nx) (match o with | some x => x.2.2 | none => zs) h ho
theorem APost.no {v nx : Int} {zs : List Z} {h : Value} {ho : Option AObj} {o : Option (Int × Int × List Z)} {e : Ex} {s : Slots} {m : Mem} (hM : o = none) (he : e = .ret) (hb : s.get 4 = .bool false) (hd : DirAt m v nx zs h ho) : APost v nx zs h ho o e s m := by
  subst hM; exact ⟨he, hb, hd⟩
theorem APost.yes {v nx : Int} {zs : List Z} {h : Value} {ho : Option AObj} {o : Option (Int × Int × List Z)} {x : Int × Int × List Z} {e : Ex} {s : Slots} {m : Mem} (hM : o = some x) (he : e = .ret) (hb : s.get 4 = .bool true) (hd : DirAt m x.1 x.2.1 x.2.2 h ho) : APost v nx zs h ho o e s m := by
  subst hM; exact ⟨he, hb, hd⟩

theorem kindM_1 {nx kz ke kt : Int} {kk : ByteArray} {zs : List Z} {i : Nat} {z : Z} {hs : List Int} : kindM nx zs i z ⟨1, kz, ke, kt, kk⟩ hs = splitM nx zs i z ⟨1, kz, ke, kt, kk⟩ := rfl
theorem kindM_2 {nx kz ke kt : Int} {kk : ByteArray} {zs : List Z} {i : Nat} {z : Z} {hs : List Int} : kindM nx zs i z ⟨2, kz, ke, kt, kk⟩ hs = mergeM nx zs i z := rfl
theorem kindM_3 {nx kz ke kt : Int} {kk : ByteArray} {zs : List Z} {i : Nat} {z : Z} {hs : List Int} : kindM nx zs i z ⟨3, kz, ke, kt, kk⟩ hs = moveM nx zs i z ⟨3, kz, ke, kt, kk⟩ hs := rfl
theorem kindM_4 {nx kz ke kt : Int} {kk : ByteArray} {zs : List Z} {i : Nat} {z : Z} {hs : List Int} : kindM nx zs i z ⟨4, kz, ke, kt, kk⟩ hs = doneM nx zs i z ⟨4, kz, ke, kt, kk⟩ := rfl
theorem kindM_5 {nx kz ke kt : Int} {kk : ByteArray} {zs : List Z} {i : Nat} {z : Z} {hs : List Int} : kindM nx zs i z ⟨5, kz, ke, kt, kk⟩ hs = abortM nx zs i z ⟨5, kz, ke, kt, kk⟩ := rfl

theorem applyM_no {v nx : Int} {zs : List Z} {hs : List Int} {k : Ch} {i : Nat} {z : Z} (hm : mayC k = true) (hv : decide (1099511627776 ≤ v) = false) (hf : findM zs k.zone = (i : Int)) (hz : zs[i]? = some z) (hM : kindM nx zs i z k hs = none) : applyM v nx zs hs k = none := by
  unfold applyM
  rw [hm, hv, hf, show decide (((i : Nat) : Int) < 0) = false from decide_eq_false (by omega), Int.toNat_natCast, hz]
  simp only [hM]
  rfl
theorem applyM_yes {v nx : Int} {zs : List Z} {hs : List Int} {k : Ch} {i : Nat} {z : Z} {x : Int × List Z} (hm : mayC k = true) (hv : decide (1099511627776 ≤ v) = false) (hf : findM zs k.zone = (i : Int)) (hz : zs[i]? = some z) (hM : kindM nx zs i z k hs = some x) : applyM v nx zs hs k = some (v + 1, x.1, x.2) := by
  unfold applyM
  rw [hm, hv, hf, show decide (((i : Nat) : Int) < 0) = false from decide_eq_false (by omega), Int.toNat_natCast, hz]
  simp only [hM]
  rfl

theorem DirAt.elim {m : Mem} {v nx : Int} {zs : List Z} {h : Value} {ho : Option AObj} {Q : Prop} (hd : DirAt m v nx zs h ho) (k : ∀ z c sp, m.get 0 = some (.cells (dirCells v nx z zs.length c h) 4 .sole) → m.get z = some (.cells (flat zs ++ sp) 9 .sole) → (z = 1 ∨ 3 ≤ z) → z < m.next → m.get 2 = ho → (∃ us, m.get 1 = some (.cells us 9 .sole)) →
    ((c < UNK ∧ c * 9 = (flat zs ++ sp).length) ∨ c = UNK + 9 + UNK * zs.length) → Q) : Q :=
  let ⟨z, c, sp, h1, h2, h3, h4, h5, h6, h7⟩ := hd; k z c sp h1 h2 h3 h4 h5 h6 h7

theorem dirAt_ver {m' : Mem} {v : Int} {x : Int × List Z} {z' c' : Nat} {h : Value} {ho : Option AObj} {sp' : List Value} (m0 : m'.get 0 = some (.cells (dirCells v x.1 z' x.2.length c' h) 4 .sole)) (m1 : m'.get z' = some (.cells (flat x.2 ++ sp') 9 .sole)) (hz3 : z' = 1 ∨ 3 ≤ z') (hzn : z' < m'.next) (m2 : m'.get 2 = ho) (hus : ∃ us, m'.get 1 = some (.cells us 9 .sole))
    (hcap : (c' < UNK ∧ c' * 9 = (flat x.2 ++ sp').length) ∨ c' = UNK + 9 + UNK * x.2.length) : DirAt (m'.put 0 (.cells (splice (dirCells v x.1 z' x.2.length c' h) 0 (Val.cells (.int .i64 (v + 1)))) 4 .sole)) (v + 1) x.1 x.2 h ho := by
  have hz0 : z' ≠ 0 := by omega
  refine ⟨z', c', sp', ?_, ?_, hz3, hzn, ?_, hus.elim fun us h => ⟨us, by rw [Mem.get_put, if_neg (by decide)]; exact h⟩, hcap⟩
  · rw [Mem.get_put, if_pos rfl]; rfl
  · rw [Mem.get_put, if_neg hz0]; exact m1
  · rw [Mem.get_put, if_neg (by decide)]; exact m2

theorem split_call {n i : Nat} {v nx : Int} {zs : List Z} {sp : List Value} {c : Nat} {hs : List Int} {hc2 : Nat} {hst : Stat} {x3 x4 : AObj} {z : Z} {k : Ch} (hz : zs[i]? = some z) (hsp : (flat zs ++ sp).length = c * 9) (hc : c < UNK) (hn : zs.length ≤ 1000) (hnx : 0 ≤ nx) (hep : 0 ≤ z.ep) (hal : ∀ m : Mem, m.alive hst = true) (hce : (hs.length == 0 && hc2 == UNK) = false) (hhn : hs.length ≤ 1000) :
    ∃ u m', cl (n + 4) 39 [ptr 0 0, .int .i64 ((i : Nat) : Int), .agg ⟨k.cells⟩] (mA v nx zs sp c hs hc2 hst x3 x4) = some (u, m') ∧ KRes v nx zs (.slice (some ⟨2, 0, none⟩) hs.length hc2) (some (.cells (ints hs) 1 hst)) (splitM nx zs i z k) u m' := by
  rw [cl_fun (fn := Try.f39) (by kernel_rfl) (by kernel_rfl)]
  exact runFn_of (C := ctx) (call := cl (n + 3)) (fid := 39) (fn := Try.f39) (R := fun u m' => KRes v nx zs (.slice (some ⟨2, 0, none⟩) hs.length hc2) (some (.cells (ints hs) 1 hst)) (splitM nx zs i z k) u m') b39_body (by kernel_rfl)
    (RunP.mono (split_run (x3 := x3) (x4 := x4) (k := k) hz hsp hc hn hnx hep hal hce hhn) fun e s m1 ⟨h1, h2, h3⟩ => ⟨fun id q => (by rw [h1] at q; cases q), [s.get 6], by rw [ret39]; rfl, h2, h3⟩)

theorem merge_call {n i : Nat} {v nx : Int} {zs : List Z} {sp : List Value} {c : Nat} {hs : List Int} {hc2 : Nat} {hst : Stat} {x3 x4 : AObj} {z : Z} {k : Ch} (hz : zs[i]? = some z) (hsp : (flat zs ++ sp).length = c * 9) (hc : c < UNK) (hn : zs.length ≤ 1000) (hnx : 0 ≤ nx) (hep : 0 ≤ z.ep) (hal : ∀ m : Mem, m.alive hst = true) (hce : (hs.length == 0 && hc2 == UNK) = false) (hhn : hs.length ≤ 1000) :
    ∃ u m', cl (n + 4) 40 [ptr 0 0, .int .i64 ((i : Nat) : Int), .agg ⟨k.cells⟩] (mA v nx zs sp c hs hc2 hst x3 x4) = some (u, m') ∧ KRes v nx zs (.slice (some ⟨2, 0, none⟩) hs.length hc2) (some (.cells (ints hs) 1 hst)) (mergeM nx zs i z) u m' := by
  rw [cl_fun (fn := Try.f40) (by kernel_rfl) (by kernel_rfl)]
  exact runFn_of (C := ctx) (call := cl (n + 3)) (fid := 40) (fn := Try.f40) (R := fun u m' => KRes v nx zs (.slice (some ⟨2, 0, none⟩) hs.length hc2) (some (.cells (ints hs) 1 hst)) (mergeM nx zs i z) u m') b40_body (by kernel_rfl)
    (RunP.mono (merge_run (x3 := x3) (x4 := x4) (k := k) hz hsp hc hn hnx hep hal hce hhn) fun e s m1 ⟨h1, h2, h3⟩ => ⟨fun id q => (by rw [h1] at q; cases q), [s.get 6], by rw [ret40]; rfl, h2, h3⟩)

theorem move_call {n i : Nat} {v nx : Int} {zs : List Z} {sp : List Value} {c : Nat} {hs : List Int} {hc2 : Nat} {hst : Stat} {x3 x4 : AObj} {z : Z} {k : Ch} (hz : zs[i]? = some z) (hsp : (flat zs ++ sp).length = c * 9) (hc : c < UNK) (hn : zs.length ≤ 1000) (hnx : 0 ≤ nx) (hep : 0 ≤ z.ep) (hal : ∀ m : Mem, m.alive hst = true) (hce : (hs.length == 0 && hc2 == UNK) = false) (hhn : hs.length ≤ 1000) :
    ∃ u m', cl (n + 4) 41 [ptr 0 0, .int .i64 ((i : Nat) : Int), .agg ⟨k.cells⟩] (mA v nx zs sp c hs hc2 hst x3 x4) = some (u, m') ∧ KRes v nx zs (.slice (some ⟨2, 0, none⟩) hs.length hc2) (some (.cells (ints hs) 1 hst)) (moveM nx zs i z k hs) u m' := by
  rw [cl_fun (fn := Try.f41) (by kernel_rfl) (by kernel_rfl)]
  exact runFn_of (C := ctx) (call := cl (n + 3)) (fid := 41) (fn := Try.f41) (R := fun u m' => KRes v nx zs (.slice (some ⟨2, 0, none⟩) hs.length hc2) (some (.cells (ints hs) 1 hst)) (moveM nx zs i z k hs) u m') b41_body (by kernel_rfl)
    (RunP.mono (move_run (x3 := x3) (x4 := x4) (k := k) hz hsp hc hn hnx hep hal hce hhn) fun e s m1 ⟨h1, h2, h3⟩ => ⟨fun id q => (by rw [h1] at q; cases q), [s.get 6], by rw [ret41]; rfl, h2, h3⟩)

theorem done_call {n i : Nat} {v nx : Int} {zs : List Z} {sp : List Value} {c : Nat} {hs : List Int} {hc2 : Nat} {hst : Stat} {x3 x4 : AObj} {z : Z} {k : Ch} (hz : zs[i]? = some z) (hsp : (flat zs ++ sp).length = c * 9) (hc : c < UNK) (hn : zs.length ≤ 1000) (hnx : 0 ≤ nx) (hep : 0 ≤ z.ep) (hal : ∀ m : Mem, m.alive hst = true) (hce : (hs.length == 0 && hc2 == UNK) = false) (hhn : hs.length ≤ 1000) :
    ∃ u m', cl (n + 4) 42 [ptr 0 0, .int .i64 ((i : Nat) : Int), .agg ⟨k.cells⟩] (mA v nx zs sp c hs hc2 hst x3 x4) = some (u, m') ∧ KRes v nx zs (.slice (some ⟨2, 0, none⟩) hs.length hc2) (some (.cells (ints hs) 1 hst)) (doneM nx zs i z k) u m' := by
  rw [cl_fun (fn := Try.f42) (by kernel_rfl) (by kernel_rfl)]
  exact runFn_of (C := ctx) (call := cl (n + 3)) (fid := 42) (fn := Try.f42) (R := fun u m' => KRes v nx zs (.slice (some ⟨2, 0, none⟩) hs.length hc2) (some (.cells (ints hs) 1 hst)) (doneM nx zs i z k) u m') b42_body (by kernel_rfl)
    (RunP.mono (done_run (x3 := x3) (x4 := x4) (k := k) hz hsp hc hn hnx hep hal hce hhn) fun e s m1 ⟨h1, h2, h3⟩ => ⟨fun id q => (by rw [h1] at q; cases q), [s.get 6], by rw [ret42]; rfl, h2, h3⟩)

theorem abort_call {n i : Nat} {v nx : Int} {zs : List Z} {sp : List Value} {c : Nat} {hs : List Int} {hc2 : Nat} {hst : Stat} {x3 x4 : AObj} {z : Z} {k : Ch} (hz : zs[i]? = some z) (hsp : (flat zs ++ sp).length = c * 9) (hc : c < UNK) (hn : zs.length ≤ 1000) (hnx : 0 ≤ nx) (hep : 0 ≤ z.ep) (hal : ∀ m : Mem, m.alive hst = true) (hce : (hs.length == 0 && hc2 == UNK) = false) (hhn : hs.length ≤ 1000) :
    ∃ u m', cl (n + 4) 43 [ptr 0 0, .int .i64 ((i : Nat) : Int), .agg ⟨k.cells⟩] (mA v nx zs sp c hs hc2 hst x3 x4) = some (u, m') ∧ KRes v nx zs (.slice (some ⟨2, 0, none⟩) hs.length hc2) (some (.cells (ints hs) 1 hst)) (abortM nx zs i z k) u m' := by
  rw [cl_fun (fn := Try.f43) (by kernel_rfl) (by kernel_rfl)]
  exact runFn_of (C := ctx) (call := cl (n + 3)) (fid := 43) (fn := Try.f43) (R := fun u m' => KRes v nx zs (.slice (some ⟨2, 0, none⟩) hs.length hc2) (some (.cells (ints hs) 1 hst)) (abortM nx zs i z k) u m') b43_body (by kernel_rfl)
    (RunP.mono (abort_run (x3 := x3) (x4 := x4) (k := k) hz hsp hc hn hnx hep hal hce hhn) fun e s m1 ⟨h1, h2, h3⟩ => ⟨fun id q => (by rw [h1] at q; cases q), [s.get 6], by rw [ret43]; rfl, h2, h3⟩)

noncomputable def b15 : Code := bodyOf Try.f15
theorem b15_body : Try.f15.body = some b15 := by kernel_rfl
noncomputable def r15_0 : Array Oper := rOps (sA (b15))
noncomputable def r15_1 : Array Oper := rOps (sA (sA (sB (b15))))
noncomputable def r15_2 : Array Oper := rOps (sA (ifA (sB (sA (sB (b15))))))
noncomputable def r15_3 : Array Oper := rOps (sA (sB (sB (b15))))
noncomputable def r15_4 : Array Oper := rOps (sA (sB (sB (sB (b15)))))
noncomputable def r15_5 : Array Oper := rOps (sA (sA (sB (sB (sB (sB (b15)))))))
noncomputable def r15_6 : Array Oper := rOps (sA (ifA (sB (sA (sB (sB (sB (sB (b15)))))))))
noncomputable def r15_7 : Array Oper := rOps (sA (sB (sB (sB (sB (sB (b15)))))))
noncomputable def r15_8 : Array Oper := rOps (sA (sB (sB (sB (sB (sB (sB (b15))))))))
theorem b15_eq : b15 = .seq (.region 0 r15_0 false) (.seq (.seq (.region 1 r15_1 false) (.cond (.tmp 21) (.seq (.region 2 r15_2 false) (.ret)) (.skip))) (.seq (.region 3 r15_3 true) (.seq (.region 4 r15_4 false) (.seq (.seq (.region 5 r15_5 true) (.cond (.tmp 42) (.seq (.region 6 r15_6 false) (.ret)) (.skip))) (.seq (.region 7 r15_7 false) (.seq (.region 8 r15_8 false) (.ret))))))) := by kernel_rfl
theorem ret15 : Try.f15.results.toList = [.tmp 4] := by kernel_rfl
theorem hr15_1_0_4 : r15_1.toList.drop 4 = (r15_1.toList.drop 4).headD default :: r15_1.toList.drop 5 := by kernel_rfl
theorem hr15_1_5_13 : (r15_1.toList.drop 5).drop 8 = ((r15_1.toList.drop 5).drop 8).headD default :: r15_1.toList.drop 14 := by kernel_rfl
theorem plan15_3 : ctx.plans 15 3 = some ⟨[0, 1, 2, 3, 4, 5], [3, 5], [⟨6, [], []⟩, ⟨7, [], []⟩]⟩ := by kernel_rfl
theorem hr15_3_6_0_0 : (opsAt r15_3 [6]) = ((opsAt r15_3 [6])).headD default :: (opsAt r15_3 [6]).drop 1 := by kernel_rfl
theorem plan15_5 : ctx.plans 15 5 = some ⟨[0, 1, 2, 3, 4, 5, 6, 7, 8, 9], [4, 6, 9], [⟨10, [11, 12], []⟩]⟩ := by kernel_rfl
theorem hr15_5_0_1_2_3_4_5_6_7_8_9_0_1 : (opsAt r15_5 [0, 1, 2, 3, 4, 5, 6, 7, 8, 9]).drop 1 = ((opsAt r15_5 [0, 1, 2, 3, 4, 5, 6, 7, 8, 9]).drop 1).headD default :: (opsAt r15_5 [0, 1, 2, 3, 4, 5, 6, 7, 8, 9]).drop 2 := by kernel_rfl
theorem hr15_5_10_11_12_0_0 : (opsAt r15_5 [10, 11, 12]) = ((opsAt r15_5 [10, 11, 12])).headD default :: (opsAt r15_5 [10, 11, 12]).drop 1 := by kernel_rfl
theorem hr15_7_0_4 : r15_7.toList.drop 4 = (r15_7.toList.drop 4).headD default :: r15_7.toList.drop 5 := by kernel_rfl
theorem hr15_7_5_5 : (r15_7.toList.drop 5) = ((r15_7.toList.drop 5)).headD default :: r15_7.toList.drop 6 := by kernel_rfl
theorem hr15_7_6_9 : (r15_7.toList.drop 6).drop 3 = ((r15_7.toList.drop 6).drop 3).headD default :: r15_7.toList.drop 10 := by kernel_rfl
set_option maxRecDepth 100000 in
set_option maxHeartbeats 0 in
theorem apply_no1 {kd : Int} {n i : Nat} {v nx kz ke kt : Int} {kk : ByteArray} {zs : List Z} {sp : List Value} {c : Nat} {hs : List Int} {hc2 : Nat} {hst : Stat} {z : Z} (hsp : (flat zs ++ sp).length = c * 9) (hc : c < UNK) (hn : zs.length ≤ 1000) (hm : mayC (⟨kd, kz, ke, kt, kk⟩ : Ch) = false) : RunP ctx (cl (n + 4)) 15 b15 (initSlots [ptr 0 0, .agg ⟨(⟨kd, kz, ke, kt, kk⟩ : Ch).cells⟩]) (mS v nx zs sp c hs hc2 hst) (APost v nx zs (.slice (some ⟨2, 0, none⟩) hs.length hc2) (some (.cells (ints hs) 1 hst)) (applyM v nx zs hs (⟨kd, kz, ke, kt, kk⟩ : Ch))) := by
  rw [b15_eq]
  refine RunP.seq ?_
  refine RunP.region ?_
  refine OpsP.rest (by kernel_rfl) ?_
  refine RunP.seq ?_
  refine RunP.seq ?_
  refine RunP.region ?_
  refine OpsP.take 4 (by kernel_rfl) ?_
  refine OpsP.stepAt hr15_1_0_4 (step_call (g := 37) (f := .func 37) (args := #[.tmp 10]) (ats := #[34]) (l := [.agg ⟨((⟨kd, kz, ke, kt, kk⟩ : Ch)).cells⟩]) (by kernel_rfl) (by kernel_rfl) (by kernel_rfl) (by kernel_rfl) (call37 (k := (⟨kd, kz, ke, kt, kk⟩ : Ch)) hm)) ?_
  refine OpsP.rest (by kernel_rfl) ?_
  refine RunP.cond (t := true) (by kernel_rfl) (fun _ => ?_) fun h => by cases h
  refine RunP.seq ?_
  refine RunP.region ?_
  refine OpsP.rest (by kernel_rfl) ?_
  refine RunP.ret ?_
  exact APost.no (by unfold applyM; rw [hm]; rfl) rfl (by kernel_rfl) ⟨1, c, sp, by kernel_rfl, by kernel_rfl, .inl rfl, Nat.le_of_ble_eq_true (by kernel_rfl), by kernel_rfl, ⟨flat zs ++ sp, by kernel_rfl⟩, .inl ⟨hc, hsp.symm⟩⟩

set_option maxRecDepth 100000 in
set_option maxHeartbeats 0 in
theorem apply_no2 {kd : Int} {n i : Nat} {v nx kz ke kt : Int} {kk : ByteArray} {zs : List Z} {sp : List Value} {c : Nat} {hs : List Int} {hc2 : Nat} {hst : Stat} {z : Z} (hsp : (flat zs ++ sp).length = c * 9) (hc : c < UNK) (hn : zs.length ≤ 1000) (hm : mayC (⟨kd, kz, ke, kt, kk⟩ : Ch) = true) (hv : decide (1099511627776 ≤ v) = true) : RunP ctx (cl (n + 4)) 15 b15 (initSlots [ptr 0 0, .agg ⟨(⟨kd, kz, ke, kt, kk⟩ : Ch).cells⟩]) (mS v nx zs sp c hs hc2 hst) (APost v nx zs (.slice (some ⟨2, 0, none⟩) hs.length hc2) (some (.cells (ints hs) 1 hst)) (applyM v nx zs hs (⟨kd, kz, ke, kt, kk⟩ : Ch))) := by
  rw [b15_eq]
  refine RunP.seq ?_
  refine RunP.region ?_
  refine OpsP.rest (by kernel_rfl) ?_
  refine RunP.seq ?_
  refine RunP.seq ?_
  refine RunP.region ?_
  refine OpsP.take 4 (by kernel_rfl) ?_
  refine OpsP.stepAt hr15_1_0_4 (step_call (g := 37) (f := .func 37) (args := #[.tmp 10]) (ats := #[34]) (l := [.agg ⟨((⟨kd, kz, ke, kt, kk⟩ : Ch)).cells⟩]) (by kernel_rfl) (by kernel_rfl) (by kernel_rfl) (by kernel_rfl) (call37 (k := (⟨kd, kz, ke, kt, kk⟩ : Ch)) hm)) ?_
  refine OpsP.take 8 (by kernel_rfl) ?_
  refine OpsP.boolK 20 hr15_1_5_13 (by kernel_rfl) (decide (1099511627776 ≤ v)) (by kernel_rfl) hv ?_
  refine OpsP.rest (by kernel_rfl) ?_
  refine RunP.cond (t := true) (by kernel_rfl) (fun _ => ?_) fun h => by cases h
  refine RunP.seq ?_
  refine RunP.region ?_
  refine OpsP.rest (by kernel_rfl) ?_
  refine RunP.ret ?_
  exact APost.no (by unfold applyM; rw [hm, hv]; rfl) rfl (by kernel_rfl) ⟨1, c, sp, by kernel_rfl, by kernel_rfl, .inl rfl, Nat.le_of_ble_eq_true (by kernel_rfl), by kernel_rfl, ⟨flat zs ++ sp, by kernel_rfl⟩, .inl ⟨hc, hsp.symm⟩⟩

set_option maxRecDepth 100000 in
set_option maxHeartbeats 0 in
theorem apply_no3 {kd : Int} {n i : Nat} {v nx kz ke kt : Int} {kk : ByteArray} {zs : List Z} {sp : List Value} {c : Nat} {hs : List Int} {hc2 : Nat} {hst : Stat} {z : Z} (hsp : (flat zs ++ sp).length = c * 9) (hc : c < UNK) (hn : zs.length ≤ 1000) {f : Int} (hm : mayC (⟨kd, kz, ke, kt, kk⟩ : Ch) = true) (hv : decide (1099511627776 ≤ v) = false) (hf : findM zs kz = f) (hneg : decide (f < 0) = true) : RunP ctx (cl (n + 4)) 15 b15 (initSlots [ptr 0 0, .agg ⟨(⟨kd, kz, ke, kt, kk⟩ : Ch).cells⟩]) (mS v nx zs sp c hs hc2 hst) (APost v nx zs (.slice (some ⟨2, 0, none⟩) hs.length hc2) (some (.cells (ints hs) 1 hst)) (applyM v nx zs hs (⟨kd, kz, ke, kt, kk⟩ : Ch))) := by
  rw [b15_eq]
  refine RunP.seq ?_
  refine RunP.region ?_
  refine OpsP.rest (by kernel_rfl) ?_
  refine RunP.seq ?_
  refine RunP.seq ?_
  refine RunP.region ?_
  refine OpsP.take 4 (by kernel_rfl) ?_
  refine OpsP.stepAt hr15_1_0_4 (step_call (g := 37) (f := .func 37) (args := #[.tmp 10]) (ats := #[34]) (l := [.agg ⟨((⟨kd, kz, ke, kt, kk⟩ : Ch)).cells⟩]) (by kernel_rfl) (by kernel_rfl) (by kernel_rfl) (by kernel_rfl) (call37 (k := (⟨kd, kz, ke, kt, kk⟩ : Ch)) hm)) ?_
  refine OpsP.take 8 (by kernel_rfl) ?_
  refine OpsP.boolK 20 hr15_1_5_13 (by kernel_rfl) (decide (1099511627776 ≤ v)) (by kernel_rfl) hv ?_
  refine OpsP.rest (by kernel_rfl) ?_
  refine RunP.cond (t := false) (by kernel_rfl) (fun h => by cases h) fun _ => ?_
  refine RunP.skip ?_
  refine RunP.seq ?_
  refine RunP.plan plan15_3 (by kernel_rfl) (by kernel_rfl) ?_
  refine OpsP.rest (by kernel_rfl) ?_
  refine ⟨(again_k (v := .agg ⟨[.int .i64 (v), .int .i64 (nx), .slice (some ⟨1, 0, none⟩) zs.length c]⟩) (d := 25) (by kernel_rfl) (by kernel_rfl) (by kernel_rfl) (by kernel_rfl) (by kernel_rfl) (veq_aggO (by kernel_rfl)) (again_k (v := .int .i64 (kz)) (d := 27) (by kernel_rfl) (by kernel_rfl) (by kernel_rfl) (by kernel_rfl) (by kernel_rfl) (veq_int _ _) again_nil)), ?_⟩
  refine OpsP.stepAt hr15_3_6_0_0 (step_call (g := 38) (f := .func 38) (args := #[.tmp 25, .tmp 27]) (ats := #[30, 3]) (l := [.agg ⟨[.int .i64 (v), .int .i64 (nx), .slice (some ⟨1, 0, none⟩) zs.length c]⟩, .int .i64 (kz)]) (by kernel_rfl) (by kernel_rfl) (by kernel_rfl) (by kernel_rfl) (call38 (sp := sp) (by kernel_rfl) hc hn hf)) ?_
  refine OpsP.nil ?_
  refine ⟨again_nil, ?_⟩
  refine OpsP.rest (by kernel_rfl) ?_
  refine ⟨again_nil, ?_⟩
  refine RunP.seq ?_
  refine RunP.region ?_
  refine OpsP.rest (by kernel_rfl) ?_
  refine RunP.seq ?_
  refine RunP.seq ?_
  refine RunP.plan plan15_5 (by kernel_rfl) (by kernel_rfl) ?_
  refine OpsP.take 1 (by kernel_rfl) ?_
  refine OpsP.boolK 31 hr15_5_0_1_2_3_4_5_6_7_8_9_0_1 (by kernel_rfl) (decide (f < 0)) (by kernel_rfl) hneg ?_
  refine OpsP.rest (by kernel_rfl) ?_
  refine ⟨(again_skip (by kernel_rfl) (by kernel_rfl) (again_skip (by kernel_rfl) (by kernel_rfl) (again_skip (by kernel_rfl) (by kernel_rfl) again_nil))), ?_⟩
  refine OpsP.rest (by kernel_rfl) ?_
  refine ⟨again_nil, ?_⟩
  refine RunP.cond (t := true) (by kernel_rfl) (fun _ => ?_) fun h => by cases h
  refine RunP.seq ?_
  refine RunP.region ?_
  refine OpsP.rest (by kernel_rfl) ?_
  refine RunP.ret ?_
  exact APost.no (by unfold applyM; rw [hm, hv]; simp only [hf, hneg]; rfl) rfl (by kernel_rfl) ⟨1, c, sp, by kernel_rfl, by kernel_rfl, .inl rfl, Nat.le_of_ble_eq_true (by kernel_rfl), by kernel_rfl, ⟨flat zs ++ sp, by kernel_rfl⟩, .inl ⟨hc, hsp.symm⟩⟩

set_option maxRecDepth 100000 in
set_option maxHeartbeats 0 in
theorem apply_1 {n i : Nat} {v nx kz ke kt : Int} {kk : ByteArray} {zs : List Z} {sp : List Value} {c : Nat} {hs : List Int} {hc2 : Nat} {hst : Stat} {z : Z} (hz : zs[i]? = some z) (hsp : (flat zs ++ sp).length = c * 9) (hc : c < UNK) (hn : zs.length ≤ 1000) (hv0 : 0 ≤ v) (hnx : 0 ≤ nx) (hep : 0 ≤ z.ep) (hal : ∀ m : Mem, m.alive hst = true) (hce : (hs.length == 0 && hc2 == UNK) = false) (hhn : hs.length ≤ 1000) (hm : mayC (⟨1, kz, ke, kt, kk⟩ : Ch) = true) (hv : decide (1099511627776 ≤ v) = false) (hf : findM zs kz = ((i : Nat) : Int)) : RunP ctx (cl (n + 4)) 15 b15 (initSlots [ptr 0 0, .agg ⟨(⟨1, kz, ke, kt, kk⟩ : Ch).cells⟩]) (mS v nx zs sp c hs hc2 hst) (APost v nx zs (.slice (some ⟨2, 0, none⟩) hs.length hc2) (some (.cells (ints hs) 1 hst)) (applyM v nx zs hs (⟨1, kz, ke, kt, kk⟩ : Ch))) := by
  have hi0 : decide (((i : Nat) : Int) < 0) = false := decide_eq_false (by omega)
  have hv1 : v < 1099511627777 := by have := of_decide_eq_false hv; omega
  rw [b15_eq]
  refine RunP.seq ?_
  refine RunP.region ?_
  refine OpsP.rest (by kernel_rfl) ?_
  refine RunP.seq ?_
  refine RunP.seq ?_
  refine RunP.region ?_
  refine OpsP.take 4 (by kernel_rfl) ?_
  refine OpsP.stepAt hr15_1_0_4 (step_call (g := 37) (f := .func 37) (args := #[.tmp 10]) (ats := #[34]) (l := [.agg ⟨((⟨1, kz, ke, kt, kk⟩ : Ch)).cells⟩]) (by kernel_rfl) (by kernel_rfl) (by kernel_rfl) (by kernel_rfl) (call37 (k := (⟨1, kz, ke, kt, kk⟩ : Ch)) hm)) ?_
  refine OpsP.take 8 (by kernel_rfl) ?_
  refine OpsP.boolK 20 hr15_1_5_13 (by kernel_rfl) (decide (1099511627776 ≤ v)) (by kernel_rfl) hv ?_
  refine OpsP.rest (by kernel_rfl) ?_
  refine RunP.cond (t := false) (by kernel_rfl) (fun h => by cases h) fun _ => ?_
  refine RunP.skip ?_
  refine RunP.seq ?_
  refine RunP.plan plan15_3 (by kernel_rfl) (by kernel_rfl) ?_
  refine OpsP.rest (by kernel_rfl) ?_
  refine ⟨(again_k (v := .agg ⟨[.int .i64 (v), .int .i64 (nx), .slice (some ⟨1, 0, none⟩) zs.length c]⟩) (d := 25) (by kernel_rfl) (by kernel_rfl) (by kernel_rfl) (by kernel_rfl) (by kernel_rfl) (veq_aggO (by kernel_rfl)) (again_k (v := .int .i64 (kz)) (d := 27) (by kernel_rfl) (by kernel_rfl) (by kernel_rfl) (by kernel_rfl) (by kernel_rfl) (veq_int _ _) again_nil)), ?_⟩
  refine OpsP.stepAt hr15_3_6_0_0 (step_call (g := 38) (f := .func 38) (args := #[.tmp 25, .tmp 27]) (ats := #[30, 3]) (l := [.agg ⟨[.int .i64 (v), .int .i64 (nx), .slice (some ⟨1, 0, none⟩) zs.length c]⟩, .int .i64 (kz)]) (by kernel_rfl) (by kernel_rfl) (by kernel_rfl) (by kernel_rfl) (call38 (sp := sp) (by kernel_rfl) hc hn hf)) ?_
  refine OpsP.nil ?_
  refine ⟨again_nil, ?_⟩
  refine OpsP.rest (by kernel_rfl) ?_
  refine ⟨again_nil, ?_⟩
  refine RunP.seq ?_
  refine RunP.region ?_
  refine OpsP.restM (m1 := (mA v nx zs sp c hs hc2 hst (.cells (⟨1, kz, ke, kt, kk⟩ : Ch).cells 5 .sole) kindsO)) (by kernel_rfl) (by kernel_rfl) ?_
  refine RunP.seq ?_
  refine RunP.seq ?_
  refine RunP.plan plan15_5 (by kernel_rfl) (by kernel_rfl) ?_
  refine OpsP.takeM (m1 := (mA v nx zs sp c hs hc2 hst (.cells (⟨1, kz, ke, kt, kk⟩ : Ch).cells 5 .sole) kindsO)) 1 (by kernel_rfl) (by kernel_rfl) ?_
  refine OpsP.boolK 31 hr15_5_0_1_2_3_4_5_6_7_8_9_0_1 (by kernel_rfl) (decide (((i : Nat) : Int) < 0)) (by kernel_rfl) hi0 ?_
  refine OpsP.restM (m1 := (mA v nx zs sp c hs hc2 hst (.cells (⟨1, kz, ke, kt, kk⟩ : Ch).cells 5 .sole) kindsO)) (by kernel_rfl) (by kernel_rfl) ?_
  refine ⟨(again_k (v := .int .i64 1) (d := 34) (by kernel_rfl) (by kernel_rfl) (by kernel_rfl) (by kernel_rfl) (by kernel_rfl) (veq_int _ _) (again_k (v := .func (.func 39) ⟨[]⟩ ⟨[]⟩) (d := 36) (by kernel_rfl) (by kernel_rfl) (by kernel_rfl) (by kernel_rfl) (by kernel_rfl) (by kernel_rfl) (again_k (v := .agg ⟨[.int .i64 1, .int .i64 (kz), .int .i64 (ke), .int .i64 (kt), .string kk]⟩) (d := 39) (by kernel_rfl) (by kernel_rfl) (by kernel_rfl) (by kernel_rfl) (by kernel_rfl) (veq_aggO (by kernel_rfl)) again_nil))), ?_⟩
  refine opt_by (splitM nx zs i z (⟨1, kz, ke, kt, kk⟩ : Ch)) (fun hM => ?_) fun x hM => ?_
  ·
    refine OpsP.callE hr15_5_10_11_12_0_0 (f := .tmp 36) (args := #[.tmp 37, .tmp 38, .tmp 39]) (ats := #[24, 3, 34]) (g := 39) (bs := [ptr 0 0, .int .i64 ((i : Nat) : Int), .agg ⟨((⟨1, kz, ke, kt, kk⟩ : Ch)).cells⟩]) (by kernel_rfl) (by kernel_rfl) (by kernel_rfl) (by kernel_rfl) (KRes.no (split_call (n := n) (k := (⟨1, kz, ke, kt, kk⟩ : Ch)) hz hsp hc hn hnx hep hal hce hhn) hM) ?_
    rintro u m' ⟨rfl, hd⟩
    refine OpsP.restM (m1 := m') (by kernel_rfl) (by kernel_rfl) ?_
    refine ⟨again_nil, ?_⟩
    refine RunP.cond (t := true) (by kernel_rfl) (fun _ => ?_) fun h => by cases h
    refine RunP.seq ?_
    refine RunP.region ?_
    refine OpsP.restM (m1 := m') (by kernel_rfl) (by kernel_rfl) ?_
    refine RunP.ret ?_
    exact APost.no (applyM_no hm hv hf hz (kindM_1.trans hM)) rfl (by kernel_rfl) hd
  ·
    refine OpsP.callE hr15_5_10_11_12_0_0 (f := .tmp 36) (args := #[.tmp 37, .tmp 38, .tmp 39]) (ats := #[24, 3, 34]) (g := 39) (bs := [ptr 0 0, .int .i64 ((i : Nat) : Int), .agg ⟨((⟨1, kz, ke, kt, kk⟩ : Ch)).cells⟩]) (by kernel_rfl) (by kernel_rfl) (by kernel_rfl) (by kernel_rfl) (KRes.yes (split_call (n := n) (k := (⟨1, kz, ke, kt, kk⟩ : Ch)) hz hsp hc hn hnx hep hal hce hhn) hM) ?_
    rintro u m' ⟨rfl, hd⟩
    refine DirAt.elim hd fun z' c' sp' m0 m1 hz3 hzn m2 hus hcap => ?_
    refine OpsP.restM (m1 := m') (by kernel_rfl) (by kernel_rfl) ?_
    refine ⟨again_nil, ?_⟩
    refine RunP.cond (t := false) (by kernel_rfl) (fun h => by cases h) fun _ => ?_
    refine RunP.skip ?_
    refine RunP.seq ?_
    refine RunP.region ?_
    refine OpsP.takeM (m1 := m') 4 (by kernel_rfl) (by kernel_rfl) ?_
    refine OpsP.stepAt hr15_7_0_4 (step_load (t := 3) (a := .tmp 46) (b := 0) (off := 0) (ti := ⟨false, 1⟩) (cs := [.int .i64 v]) (v := .int .i64 v) (by kernel_rfl) (by kernel_rfl) (by kernel_rfl) (by kernel_rfl) (loadN_get m0 rfl (by simp [dirCells])) rfl) ?_
    refine OpsP.stepAt hr15_7_5_5 (step_add (t := 3) (w := 3) (x := .tmp 47) (y := .const (.int .i64 1)) (k := .i64) (a := v) (b := 1) (c := (v + 1)) (by kernel_rfl) (by kernel_rfl) (by kernel_rfl) (by kernel_rfl) (wrap_p1 hv0 hv1)) ?_
    refine OpsP.takeM (m1 := m') 3 (by kernel_rfl) (by kernel_rfl) ?_
    refine OpsP.stepAt hr15_7_6_9 (step_store (t := 3) (a := .tmp 51) (x := .tmp 48) (b := 0) (off := 0) (u := .int .i64 (v + 1)) (by kernel_rfl) (by kernel_rfl) (by kernel_rfl) (by kernel_rfl) info3_eq (by kernel_rfl) (by kernel_rfl) (storeN_sole (o := 0) (off := 0) (vs := dirCells v x.1 z' x.2.length c' (.slice (some ⟨2, 0, none⟩) hs.length hc2)) (e := 4) m0 (by simp [dirCells, Val.cells]) (by kernel_rfl))) ?_
    refine OpsP.nil ?_
    refine RunP.seq ?_
    refine RunP.region ?_
    refine OpsP.restM (m1 := (m'.put 0 (.cells (splice (dirCells v x.1 z' x.2.length c' (.slice (some ⟨2, 0, none⟩) hs.length hc2)) 0 (Val.cells (.int .i64 (v + 1)))) 4 .sole))) (by kernel_rfl) (by kernel_rfl) ?_
    refine RunP.ret ?_
    exact APost.yes (applyM_yes hm hv hf hz (kindM_1.trans hM)) rfl (by kernel_rfl) (dirAt_ver m0 m1 hz3 hzn m2 hus hcap)

set_option maxRecDepth 100000 in
set_option maxHeartbeats 0 in
theorem apply_2 {n i : Nat} {v nx kz ke kt : Int} {kk : ByteArray} {zs : List Z} {sp : List Value} {c : Nat} {hs : List Int} {hc2 : Nat} {hst : Stat} {z : Z} (hz : zs[i]? = some z) (hsp : (flat zs ++ sp).length = c * 9) (hc : c < UNK) (hn : zs.length ≤ 1000) (hv0 : 0 ≤ v) (hnx : 0 ≤ nx) (hep : 0 ≤ z.ep) (hal : ∀ m : Mem, m.alive hst = true) (hce : (hs.length == 0 && hc2 == UNK) = false) (hhn : hs.length ≤ 1000) (hm : mayC (⟨2, kz, ke, kt, kk⟩ : Ch) = true) (hv : decide (1099511627776 ≤ v) = false) (hf : findM zs kz = ((i : Nat) : Int)) : RunP ctx (cl (n + 4)) 15 b15 (initSlots [ptr 0 0, .agg ⟨(⟨2, kz, ke, kt, kk⟩ : Ch).cells⟩]) (mS v nx zs sp c hs hc2 hst) (APost v nx zs (.slice (some ⟨2, 0, none⟩) hs.length hc2) (some (.cells (ints hs) 1 hst)) (applyM v nx zs hs (⟨2, kz, ke, kt, kk⟩ : Ch))) := by
  have hi0 : decide (((i : Nat) : Int) < 0) = false := decide_eq_false (by omega)
  have hv1 : v < 1099511627777 := by have := of_decide_eq_false hv; omega
  rw [b15_eq]
  refine RunP.seq ?_
  refine RunP.region ?_
  refine OpsP.rest (by kernel_rfl) ?_
  refine RunP.seq ?_
  refine RunP.seq ?_
  refine RunP.region ?_
  refine OpsP.take 4 (by kernel_rfl) ?_
  refine OpsP.stepAt hr15_1_0_4 (step_call (g := 37) (f := .func 37) (args := #[.tmp 10]) (ats := #[34]) (l := [.agg ⟨((⟨2, kz, ke, kt, kk⟩ : Ch)).cells⟩]) (by kernel_rfl) (by kernel_rfl) (by kernel_rfl) (by kernel_rfl) (call37 (k := (⟨2, kz, ke, kt, kk⟩ : Ch)) hm)) ?_
  refine OpsP.take 8 (by kernel_rfl) ?_
  refine OpsP.boolK 20 hr15_1_5_13 (by kernel_rfl) (decide (1099511627776 ≤ v)) (by kernel_rfl) hv ?_
  refine OpsP.rest (by kernel_rfl) ?_
  refine RunP.cond (t := false) (by kernel_rfl) (fun h => by cases h) fun _ => ?_
  refine RunP.skip ?_
  refine RunP.seq ?_
  refine RunP.plan plan15_3 (by kernel_rfl) (by kernel_rfl) ?_
  refine OpsP.rest (by kernel_rfl) ?_
  refine ⟨(again_k (v := .agg ⟨[.int .i64 (v), .int .i64 (nx), .slice (some ⟨1, 0, none⟩) zs.length c]⟩) (d := 25) (by kernel_rfl) (by kernel_rfl) (by kernel_rfl) (by kernel_rfl) (by kernel_rfl) (veq_aggO (by kernel_rfl)) (again_k (v := .int .i64 (kz)) (d := 27) (by kernel_rfl) (by kernel_rfl) (by kernel_rfl) (by kernel_rfl) (by kernel_rfl) (veq_int _ _) again_nil)), ?_⟩
  refine OpsP.stepAt hr15_3_6_0_0 (step_call (g := 38) (f := .func 38) (args := #[.tmp 25, .tmp 27]) (ats := #[30, 3]) (l := [.agg ⟨[.int .i64 (v), .int .i64 (nx), .slice (some ⟨1, 0, none⟩) zs.length c]⟩, .int .i64 (kz)]) (by kernel_rfl) (by kernel_rfl) (by kernel_rfl) (by kernel_rfl) (call38 (sp := sp) (by kernel_rfl) hc hn hf)) ?_
  refine OpsP.nil ?_
  refine ⟨again_nil, ?_⟩
  refine OpsP.rest (by kernel_rfl) ?_
  refine ⟨again_nil, ?_⟩
  refine RunP.seq ?_
  refine RunP.region ?_
  refine OpsP.restM (m1 := (mA v nx zs sp c hs hc2 hst (.cells (⟨2, kz, ke, kt, kk⟩ : Ch).cells 5 .sole) kindsO)) (by kernel_rfl) (by kernel_rfl) ?_
  refine RunP.seq ?_
  refine RunP.seq ?_
  refine RunP.plan plan15_5 (by kernel_rfl) (by kernel_rfl) ?_
  refine OpsP.takeM (m1 := (mA v nx zs sp c hs hc2 hst (.cells (⟨2, kz, ke, kt, kk⟩ : Ch).cells 5 .sole) kindsO)) 1 (by kernel_rfl) (by kernel_rfl) ?_
  refine OpsP.boolK 31 hr15_5_0_1_2_3_4_5_6_7_8_9_0_1 (by kernel_rfl) (decide (((i : Nat) : Int) < 0)) (by kernel_rfl) hi0 ?_
  refine OpsP.restM (m1 := (mA v nx zs sp c hs hc2 hst (.cells (⟨2, kz, ke, kt, kk⟩ : Ch).cells 5 .sole) kindsO)) (by kernel_rfl) (by kernel_rfl) ?_
  refine ⟨(again_k (v := .int .i64 2) (d := 34) (by kernel_rfl) (by kernel_rfl) (by kernel_rfl) (by kernel_rfl) (by kernel_rfl) (veq_int _ _) (again_k (v := .func (.func 40) ⟨[]⟩ ⟨[]⟩) (d := 36) (by kernel_rfl) (by kernel_rfl) (by kernel_rfl) (by kernel_rfl) (by kernel_rfl) (by kernel_rfl) (again_k (v := .agg ⟨[.int .i64 2, .int .i64 (kz), .int .i64 (ke), .int .i64 (kt), .string kk]⟩) (d := 39) (by kernel_rfl) (by kernel_rfl) (by kernel_rfl) (by kernel_rfl) (by kernel_rfl) (veq_aggO (by kernel_rfl)) again_nil))), ?_⟩
  refine opt_by (mergeM nx zs i z) (fun hM => ?_) fun x hM => ?_
  ·
    refine OpsP.callE hr15_5_10_11_12_0_0 (f := .tmp 36) (args := #[.tmp 37, .tmp 38, .tmp 39]) (ats := #[24, 3, 34]) (g := 40) (bs := [ptr 0 0, .int .i64 ((i : Nat) : Int), .agg ⟨((⟨2, kz, ke, kt, kk⟩ : Ch)).cells⟩]) (by kernel_rfl) (by kernel_rfl) (by kernel_rfl) (by kernel_rfl) (KRes.no (merge_call (n := n) (k := (⟨2, kz, ke, kt, kk⟩ : Ch)) hz hsp hc hn hnx hep hal hce hhn) hM) ?_
    rintro u m' ⟨rfl, hd⟩
    refine OpsP.restM (m1 := m') (by kernel_rfl) (by kernel_rfl) ?_
    refine ⟨again_nil, ?_⟩
    refine RunP.cond (t := true) (by kernel_rfl) (fun _ => ?_) fun h => by cases h
    refine RunP.seq ?_
    refine RunP.region ?_
    refine OpsP.restM (m1 := m') (by kernel_rfl) (by kernel_rfl) ?_
    refine RunP.ret ?_
    exact APost.no (applyM_no hm hv hf hz (kindM_2.trans hM)) rfl (by kernel_rfl) hd
  ·
    refine OpsP.callE hr15_5_10_11_12_0_0 (f := .tmp 36) (args := #[.tmp 37, .tmp 38, .tmp 39]) (ats := #[24, 3, 34]) (g := 40) (bs := [ptr 0 0, .int .i64 ((i : Nat) : Int), .agg ⟨((⟨2, kz, ke, kt, kk⟩ : Ch)).cells⟩]) (by kernel_rfl) (by kernel_rfl) (by kernel_rfl) (by kernel_rfl) (KRes.yes (merge_call (n := n) (k := (⟨2, kz, ke, kt, kk⟩ : Ch)) hz hsp hc hn hnx hep hal hce hhn) hM) ?_
    rintro u m' ⟨rfl, hd⟩
    refine DirAt.elim hd fun z' c' sp' m0 m1 hz3 hzn m2 hus hcap => ?_
    refine OpsP.restM (m1 := m') (by kernel_rfl) (by kernel_rfl) ?_
    refine ⟨again_nil, ?_⟩
    refine RunP.cond (t := false) (by kernel_rfl) (fun h => by cases h) fun _ => ?_
    refine RunP.skip ?_
    refine RunP.seq ?_
    refine RunP.region ?_
    refine OpsP.takeM (m1 := m') 4 (by kernel_rfl) (by kernel_rfl) ?_
    refine OpsP.stepAt hr15_7_0_4 (step_load (t := 3) (a := .tmp 46) (b := 0) (off := 0) (ti := ⟨false, 1⟩) (cs := [.int .i64 v]) (v := .int .i64 v) (by kernel_rfl) (by kernel_rfl) (by kernel_rfl) (by kernel_rfl) (loadN_get m0 rfl (by simp [dirCells])) rfl) ?_
    refine OpsP.stepAt hr15_7_5_5 (step_add (t := 3) (w := 3) (x := .tmp 47) (y := .const (.int .i64 1)) (k := .i64) (a := v) (b := 1) (c := (v + 1)) (by kernel_rfl) (by kernel_rfl) (by kernel_rfl) (by kernel_rfl) (wrap_p1 hv0 hv1)) ?_
    refine OpsP.takeM (m1 := m') 3 (by kernel_rfl) (by kernel_rfl) ?_
    refine OpsP.stepAt hr15_7_6_9 (step_store (t := 3) (a := .tmp 51) (x := .tmp 48) (b := 0) (off := 0) (u := .int .i64 (v + 1)) (by kernel_rfl) (by kernel_rfl) (by kernel_rfl) (by kernel_rfl) info3_eq (by kernel_rfl) (by kernel_rfl) (storeN_sole (o := 0) (off := 0) (vs := dirCells v x.1 z' x.2.length c' (.slice (some ⟨2, 0, none⟩) hs.length hc2)) (e := 4) m0 (by simp [dirCells, Val.cells]) (by kernel_rfl))) ?_
    refine OpsP.nil ?_
    refine RunP.seq ?_
    refine RunP.region ?_
    refine OpsP.restM (m1 := (m'.put 0 (.cells (splice (dirCells v x.1 z' x.2.length c' (.slice (some ⟨2, 0, none⟩) hs.length hc2)) 0 (Val.cells (.int .i64 (v + 1)))) 4 .sole))) (by kernel_rfl) (by kernel_rfl) ?_
    refine RunP.ret ?_
    exact APost.yes (applyM_yes hm hv hf hz (kindM_2.trans hM)) rfl (by kernel_rfl) (dirAt_ver m0 m1 hz3 hzn m2 hus hcap)

set_option maxRecDepth 100000 in
set_option maxHeartbeats 0 in
theorem apply_3 {n i : Nat} {v nx kz ke kt : Int} {kk : ByteArray} {zs : List Z} {sp : List Value} {c : Nat} {hs : List Int} {hc2 : Nat} {hst : Stat} {z : Z} (hz : zs[i]? = some z) (hsp : (flat zs ++ sp).length = c * 9) (hc : c < UNK) (hn : zs.length ≤ 1000) (hv0 : 0 ≤ v) (hnx : 0 ≤ nx) (hep : 0 ≤ z.ep) (hal : ∀ m : Mem, m.alive hst = true) (hce : (hs.length == 0 && hc2 == UNK) = false) (hhn : hs.length ≤ 1000) (hm : mayC (⟨3, kz, ke, kt, kk⟩ : Ch) = true) (hv : decide (1099511627776 ≤ v) = false) (hf : findM zs kz = ((i : Nat) : Int)) : RunP ctx (cl (n + 4)) 15 b15 (initSlots [ptr 0 0, .agg ⟨(⟨3, kz, ke, kt, kk⟩ : Ch).cells⟩]) (mS v nx zs sp c hs hc2 hst) (APost v nx zs (.slice (some ⟨2, 0, none⟩) hs.length hc2) (some (.cells (ints hs) 1 hst)) (applyM v nx zs hs (⟨3, kz, ke, kt, kk⟩ : Ch))) := by
  have hi0 : decide (((i : Nat) : Int) < 0) = false := decide_eq_false (by omega)
  have hv1 : v < 1099511627777 := by have := of_decide_eq_false hv; omega
  rw [b15_eq]
  refine RunP.seq ?_
  refine RunP.region ?_
  refine OpsP.rest (by kernel_rfl) ?_
  refine RunP.seq ?_
  refine RunP.seq ?_
  refine RunP.region ?_
  refine OpsP.take 4 (by kernel_rfl) ?_
  refine OpsP.stepAt hr15_1_0_4 (step_call (g := 37) (f := .func 37) (args := #[.tmp 10]) (ats := #[34]) (l := [.agg ⟨((⟨3, kz, ke, kt, kk⟩ : Ch)).cells⟩]) (by kernel_rfl) (by kernel_rfl) (by kernel_rfl) (by kernel_rfl) (call37 (k := (⟨3, kz, ke, kt, kk⟩ : Ch)) hm)) ?_
  refine OpsP.take 8 (by kernel_rfl) ?_
  refine OpsP.boolK 20 hr15_1_5_13 (by kernel_rfl) (decide (1099511627776 ≤ v)) (by kernel_rfl) hv ?_
  refine OpsP.rest (by kernel_rfl) ?_
  refine RunP.cond (t := false) (by kernel_rfl) (fun h => by cases h) fun _ => ?_
  refine RunP.skip ?_
  refine RunP.seq ?_
  refine RunP.plan plan15_3 (by kernel_rfl) (by kernel_rfl) ?_
  refine OpsP.rest (by kernel_rfl) ?_
  refine ⟨(again_k (v := .agg ⟨[.int .i64 (v), .int .i64 (nx), .slice (some ⟨1, 0, none⟩) zs.length c]⟩) (d := 25) (by kernel_rfl) (by kernel_rfl) (by kernel_rfl) (by kernel_rfl) (by kernel_rfl) (veq_aggO (by kernel_rfl)) (again_k (v := .int .i64 (kz)) (d := 27) (by kernel_rfl) (by kernel_rfl) (by kernel_rfl) (by kernel_rfl) (by kernel_rfl) (veq_int _ _) again_nil)), ?_⟩
  refine OpsP.stepAt hr15_3_6_0_0 (step_call (g := 38) (f := .func 38) (args := #[.tmp 25, .tmp 27]) (ats := #[30, 3]) (l := [.agg ⟨[.int .i64 (v), .int .i64 (nx), .slice (some ⟨1, 0, none⟩) zs.length c]⟩, .int .i64 (kz)]) (by kernel_rfl) (by kernel_rfl) (by kernel_rfl) (by kernel_rfl) (call38 (sp := sp) (by kernel_rfl) hc hn hf)) ?_
  refine OpsP.nil ?_
  refine ⟨again_nil, ?_⟩
  refine OpsP.rest (by kernel_rfl) ?_
  refine ⟨again_nil, ?_⟩
  refine RunP.seq ?_
  refine RunP.region ?_
  refine OpsP.restM (m1 := (mA v nx zs sp c hs hc2 hst (.cells (⟨3, kz, ke, kt, kk⟩ : Ch).cells 5 .sole) kindsO)) (by kernel_rfl) (by kernel_rfl) ?_
  refine RunP.seq ?_
  refine RunP.seq ?_
  refine RunP.plan plan15_5 (by kernel_rfl) (by kernel_rfl) ?_
  refine OpsP.takeM (m1 := (mA v nx zs sp c hs hc2 hst (.cells (⟨3, kz, ke, kt, kk⟩ : Ch).cells 5 .sole) kindsO)) 1 (by kernel_rfl) (by kernel_rfl) ?_
  refine OpsP.boolK 31 hr15_5_0_1_2_3_4_5_6_7_8_9_0_1 (by kernel_rfl) (decide (((i : Nat) : Int) < 0)) (by kernel_rfl) hi0 ?_
  refine OpsP.restM (m1 := (mA v nx zs sp c hs hc2 hst (.cells (⟨3, kz, ke, kt, kk⟩ : Ch).cells 5 .sole) kindsO)) (by kernel_rfl) (by kernel_rfl) ?_
  refine ⟨(again_k (v := .int .i64 3) (d := 34) (by kernel_rfl) (by kernel_rfl) (by kernel_rfl) (by kernel_rfl) (by kernel_rfl) (veq_int _ _) (again_k (v := .func (.func 41) ⟨[]⟩ ⟨[]⟩) (d := 36) (by kernel_rfl) (by kernel_rfl) (by kernel_rfl) (by kernel_rfl) (by kernel_rfl) (by kernel_rfl) (again_k (v := .agg ⟨[.int .i64 3, .int .i64 (kz), .int .i64 (ke), .int .i64 (kt), .string kk]⟩) (d := 39) (by kernel_rfl) (by kernel_rfl) (by kernel_rfl) (by kernel_rfl) (by kernel_rfl) (veq_aggO (by kernel_rfl)) again_nil))), ?_⟩
  refine opt_by (moveM nx zs i z (⟨3, kz, ke, kt, kk⟩ : Ch) hs) (fun hM => ?_) fun x hM => ?_
  ·
    refine OpsP.callE hr15_5_10_11_12_0_0 (f := .tmp 36) (args := #[.tmp 37, .tmp 38, .tmp 39]) (ats := #[24, 3, 34]) (g := 41) (bs := [ptr 0 0, .int .i64 ((i : Nat) : Int), .agg ⟨((⟨3, kz, ke, kt, kk⟩ : Ch)).cells⟩]) (by kernel_rfl) (by kernel_rfl) (by kernel_rfl) (by kernel_rfl) (KRes.no (move_call (n := n) (k := (⟨3, kz, ke, kt, kk⟩ : Ch)) hz hsp hc hn hnx hep hal hce hhn) hM) ?_
    rintro u m' ⟨rfl, hd⟩
    refine OpsP.restM (m1 := m') (by kernel_rfl) (by kernel_rfl) ?_
    refine ⟨again_nil, ?_⟩
    refine RunP.cond (t := true) (by kernel_rfl) (fun _ => ?_) fun h => by cases h
    refine RunP.seq ?_
    refine RunP.region ?_
    refine OpsP.restM (m1 := m') (by kernel_rfl) (by kernel_rfl) ?_
    refine RunP.ret ?_
    exact APost.no (applyM_no hm hv hf hz (kindM_3.trans hM)) rfl (by kernel_rfl) hd
  ·
    refine OpsP.callE hr15_5_10_11_12_0_0 (f := .tmp 36) (args := #[.tmp 37, .tmp 38, .tmp 39]) (ats := #[24, 3, 34]) (g := 41) (bs := [ptr 0 0, .int .i64 ((i : Nat) : Int), .agg ⟨((⟨3, kz, ke, kt, kk⟩ : Ch)).cells⟩]) (by kernel_rfl) (by kernel_rfl) (by kernel_rfl) (by kernel_rfl) (KRes.yes (move_call (n := n) (k := (⟨3, kz, ke, kt, kk⟩ : Ch)) hz hsp hc hn hnx hep hal hce hhn) hM) ?_
    rintro u m' ⟨rfl, hd⟩
    refine DirAt.elim hd fun z' c' sp' m0 m1 hz3 hzn m2 hus hcap => ?_
    refine OpsP.restM (m1 := m') (by kernel_rfl) (by kernel_rfl) ?_
    refine ⟨again_nil, ?_⟩
    refine RunP.cond (t := false) (by kernel_rfl) (fun h => by cases h) fun _ => ?_
    refine RunP.skip ?_
    refine RunP.seq ?_
    refine RunP.region ?_
    refine OpsP.takeM (m1 := m') 4 (by kernel_rfl) (by kernel_rfl) ?_
    refine OpsP.stepAt hr15_7_0_4 (step_load (t := 3) (a := .tmp 46) (b := 0) (off := 0) (ti := ⟨false, 1⟩) (cs := [.int .i64 v]) (v := .int .i64 v) (by kernel_rfl) (by kernel_rfl) (by kernel_rfl) (by kernel_rfl) (loadN_get m0 rfl (by simp [dirCells])) rfl) ?_
    refine OpsP.stepAt hr15_7_5_5 (step_add (t := 3) (w := 3) (x := .tmp 47) (y := .const (.int .i64 1)) (k := .i64) (a := v) (b := 1) (c := (v + 1)) (by kernel_rfl) (by kernel_rfl) (by kernel_rfl) (by kernel_rfl) (wrap_p1 hv0 hv1)) ?_
    refine OpsP.takeM (m1 := m') 3 (by kernel_rfl) (by kernel_rfl) ?_
    refine OpsP.stepAt hr15_7_6_9 (step_store (t := 3) (a := .tmp 51) (x := .tmp 48) (b := 0) (off := 0) (u := .int .i64 (v + 1)) (by kernel_rfl) (by kernel_rfl) (by kernel_rfl) (by kernel_rfl) info3_eq (by kernel_rfl) (by kernel_rfl) (storeN_sole (o := 0) (off := 0) (vs := dirCells v x.1 z' x.2.length c' (.slice (some ⟨2, 0, none⟩) hs.length hc2)) (e := 4) m0 (by simp [dirCells, Val.cells]) (by kernel_rfl))) ?_
    refine OpsP.nil ?_
    refine RunP.seq ?_
    refine RunP.region ?_
    refine OpsP.restM (m1 := (m'.put 0 (.cells (splice (dirCells v x.1 z' x.2.length c' (.slice (some ⟨2, 0, none⟩) hs.length hc2)) 0 (Val.cells (.int .i64 (v + 1)))) 4 .sole))) (by kernel_rfl) (by kernel_rfl) ?_
    refine RunP.ret ?_
    exact APost.yes (applyM_yes hm hv hf hz (kindM_3.trans hM)) rfl (by kernel_rfl) (dirAt_ver m0 m1 hz3 hzn m2 hus hcap)

set_option maxRecDepth 100000 in
set_option maxHeartbeats 0 in
theorem apply_4 {n i : Nat} {v nx kz ke kt : Int} {kk : ByteArray} {zs : List Z} {sp : List Value} {c : Nat} {hs : List Int} {hc2 : Nat} {hst : Stat} {z : Z} (hz : zs[i]? = some z) (hsp : (flat zs ++ sp).length = c * 9) (hc : c < UNK) (hn : zs.length ≤ 1000) (hv0 : 0 ≤ v) (hnx : 0 ≤ nx) (hep : 0 ≤ z.ep) (hal : ∀ m : Mem, m.alive hst = true) (hce : (hs.length == 0 && hc2 == UNK) = false) (hhn : hs.length ≤ 1000) (hm : mayC (⟨4, kz, ke, kt, kk⟩ : Ch) = true) (hv : decide (1099511627776 ≤ v) = false) (hf : findM zs kz = ((i : Nat) : Int)) : RunP ctx (cl (n + 4)) 15 b15 (initSlots [ptr 0 0, .agg ⟨(⟨4, kz, ke, kt, kk⟩ : Ch).cells⟩]) (mS v nx zs sp c hs hc2 hst) (APost v nx zs (.slice (some ⟨2, 0, none⟩) hs.length hc2) (some (.cells (ints hs) 1 hst)) (applyM v nx zs hs (⟨4, kz, ke, kt, kk⟩ : Ch))) := by
  have hi0 : decide (((i : Nat) : Int) < 0) = false := decide_eq_false (by omega)
  have hv1 : v < 1099511627777 := by have := of_decide_eq_false hv; omega
  rw [b15_eq]
  refine RunP.seq ?_
  refine RunP.region ?_
  refine OpsP.rest (by kernel_rfl) ?_
  refine RunP.seq ?_
  refine RunP.seq ?_
  refine RunP.region ?_
  refine OpsP.take 4 (by kernel_rfl) ?_
  refine OpsP.stepAt hr15_1_0_4 (step_call (g := 37) (f := .func 37) (args := #[.tmp 10]) (ats := #[34]) (l := [.agg ⟨((⟨4, kz, ke, kt, kk⟩ : Ch)).cells⟩]) (by kernel_rfl) (by kernel_rfl) (by kernel_rfl) (by kernel_rfl) (call37 (k := (⟨4, kz, ke, kt, kk⟩ : Ch)) hm)) ?_
  refine OpsP.take 8 (by kernel_rfl) ?_
  refine OpsP.boolK 20 hr15_1_5_13 (by kernel_rfl) (decide (1099511627776 ≤ v)) (by kernel_rfl) hv ?_
  refine OpsP.rest (by kernel_rfl) ?_
  refine RunP.cond (t := false) (by kernel_rfl) (fun h => by cases h) fun _ => ?_
  refine RunP.skip ?_
  refine RunP.seq ?_
  refine RunP.plan plan15_3 (by kernel_rfl) (by kernel_rfl) ?_
  refine OpsP.rest (by kernel_rfl) ?_
  refine ⟨(again_k (v := .agg ⟨[.int .i64 (v), .int .i64 (nx), .slice (some ⟨1, 0, none⟩) zs.length c]⟩) (d := 25) (by kernel_rfl) (by kernel_rfl) (by kernel_rfl) (by kernel_rfl) (by kernel_rfl) (veq_aggO (by kernel_rfl)) (again_k (v := .int .i64 (kz)) (d := 27) (by kernel_rfl) (by kernel_rfl) (by kernel_rfl) (by kernel_rfl) (by kernel_rfl) (veq_int _ _) again_nil)), ?_⟩
  refine OpsP.stepAt hr15_3_6_0_0 (step_call (g := 38) (f := .func 38) (args := #[.tmp 25, .tmp 27]) (ats := #[30, 3]) (l := [.agg ⟨[.int .i64 (v), .int .i64 (nx), .slice (some ⟨1, 0, none⟩) zs.length c]⟩, .int .i64 (kz)]) (by kernel_rfl) (by kernel_rfl) (by kernel_rfl) (by kernel_rfl) (call38 (sp := sp) (by kernel_rfl) hc hn hf)) ?_
  refine OpsP.nil ?_
  refine ⟨again_nil, ?_⟩
  refine OpsP.rest (by kernel_rfl) ?_
  refine ⟨again_nil, ?_⟩
  refine RunP.seq ?_
  refine RunP.region ?_
  refine OpsP.restM (m1 := (mA v nx zs sp c hs hc2 hst (.cells (⟨4, kz, ke, kt, kk⟩ : Ch).cells 5 .sole) kindsO)) (by kernel_rfl) (by kernel_rfl) ?_
  refine RunP.seq ?_
  refine RunP.seq ?_
  refine RunP.plan plan15_5 (by kernel_rfl) (by kernel_rfl) ?_
  refine OpsP.takeM (m1 := (mA v nx zs sp c hs hc2 hst (.cells (⟨4, kz, ke, kt, kk⟩ : Ch).cells 5 .sole) kindsO)) 1 (by kernel_rfl) (by kernel_rfl) ?_
  refine OpsP.boolK 31 hr15_5_0_1_2_3_4_5_6_7_8_9_0_1 (by kernel_rfl) (decide (((i : Nat) : Int) < 0)) (by kernel_rfl) hi0 ?_
  refine OpsP.restM (m1 := (mA v nx zs sp c hs hc2 hst (.cells (⟨4, kz, ke, kt, kk⟩ : Ch).cells 5 .sole) kindsO)) (by kernel_rfl) (by kernel_rfl) ?_
  refine ⟨(again_k (v := .int .i64 4) (d := 34) (by kernel_rfl) (by kernel_rfl) (by kernel_rfl) (by kernel_rfl) (by kernel_rfl) (veq_int _ _) (again_k (v := .func (.func 42) ⟨[]⟩ ⟨[]⟩) (d := 36) (by kernel_rfl) (by kernel_rfl) (by kernel_rfl) (by kernel_rfl) (by kernel_rfl) (by kernel_rfl) (again_k (v := .agg ⟨[.int .i64 4, .int .i64 (kz), .int .i64 (ke), .int .i64 (kt), .string kk]⟩) (d := 39) (by kernel_rfl) (by kernel_rfl) (by kernel_rfl) (by kernel_rfl) (by kernel_rfl) (veq_aggO (by kernel_rfl)) again_nil))), ?_⟩
  refine opt_by (doneM nx zs i z (⟨4, kz, ke, kt, kk⟩ : Ch)) (fun hM => ?_) fun x hM => ?_
  ·
    refine OpsP.callE hr15_5_10_11_12_0_0 (f := .tmp 36) (args := #[.tmp 37, .tmp 38, .tmp 39]) (ats := #[24, 3, 34]) (g := 42) (bs := [ptr 0 0, .int .i64 ((i : Nat) : Int), .agg ⟨((⟨4, kz, ke, kt, kk⟩ : Ch)).cells⟩]) (by kernel_rfl) (by kernel_rfl) (by kernel_rfl) (by kernel_rfl) (KRes.no (done_call (n := n) (k := (⟨4, kz, ke, kt, kk⟩ : Ch)) hz hsp hc hn hnx hep hal hce hhn) hM) ?_
    rintro u m' ⟨rfl, hd⟩
    refine OpsP.restM (m1 := m') (by kernel_rfl) (by kernel_rfl) ?_
    refine ⟨again_nil, ?_⟩
    refine RunP.cond (t := true) (by kernel_rfl) (fun _ => ?_) fun h => by cases h
    refine RunP.seq ?_
    refine RunP.region ?_
    refine OpsP.restM (m1 := m') (by kernel_rfl) (by kernel_rfl) ?_
    refine RunP.ret ?_
    exact APost.no (applyM_no hm hv hf hz (kindM_4.trans hM)) rfl (by kernel_rfl) hd
  ·
    refine OpsP.callE hr15_5_10_11_12_0_0 (f := .tmp 36) (args := #[.tmp 37, .tmp 38, .tmp 39]) (ats := #[24, 3, 34]) (g := 42) (bs := [ptr 0 0, .int .i64 ((i : Nat) : Int), .agg ⟨((⟨4, kz, ke, kt, kk⟩ : Ch)).cells⟩]) (by kernel_rfl) (by kernel_rfl) (by kernel_rfl) (by kernel_rfl) (KRes.yes (done_call (n := n) (k := (⟨4, kz, ke, kt, kk⟩ : Ch)) hz hsp hc hn hnx hep hal hce hhn) hM) ?_
    rintro u m' ⟨rfl, hd⟩
    refine DirAt.elim hd fun z' c' sp' m0 m1 hz3 hzn m2 hus hcap => ?_
    refine OpsP.restM (m1 := m') (by kernel_rfl) (by kernel_rfl) ?_
    refine ⟨again_nil, ?_⟩
    refine RunP.cond (t := false) (by kernel_rfl) (fun h => by cases h) fun _ => ?_
    refine RunP.skip ?_
    refine RunP.seq ?_
    refine RunP.region ?_
    refine OpsP.takeM (m1 := m') 4 (by kernel_rfl) (by kernel_rfl) ?_
    refine OpsP.stepAt hr15_7_0_4 (step_load (t := 3) (a := .tmp 46) (b := 0) (off := 0) (ti := ⟨false, 1⟩) (cs := [.int .i64 v]) (v := .int .i64 v) (by kernel_rfl) (by kernel_rfl) (by kernel_rfl) (by kernel_rfl) (loadN_get m0 rfl (by simp [dirCells])) rfl) ?_
    refine OpsP.stepAt hr15_7_5_5 (step_add (t := 3) (w := 3) (x := .tmp 47) (y := .const (.int .i64 1)) (k := .i64) (a := v) (b := 1) (c := (v + 1)) (by kernel_rfl) (by kernel_rfl) (by kernel_rfl) (by kernel_rfl) (wrap_p1 hv0 hv1)) ?_
    refine OpsP.takeM (m1 := m') 3 (by kernel_rfl) (by kernel_rfl) ?_
    refine OpsP.stepAt hr15_7_6_9 (step_store (t := 3) (a := .tmp 51) (x := .tmp 48) (b := 0) (off := 0) (u := .int .i64 (v + 1)) (by kernel_rfl) (by kernel_rfl) (by kernel_rfl) (by kernel_rfl) info3_eq (by kernel_rfl) (by kernel_rfl) (storeN_sole (o := 0) (off := 0) (vs := dirCells v x.1 z' x.2.length c' (.slice (some ⟨2, 0, none⟩) hs.length hc2)) (e := 4) m0 (by simp [dirCells, Val.cells]) (by kernel_rfl))) ?_
    refine OpsP.nil ?_
    refine RunP.seq ?_
    refine RunP.region ?_
    refine OpsP.restM (m1 := (m'.put 0 (.cells (splice (dirCells v x.1 z' x.2.length c' (.slice (some ⟨2, 0, none⟩) hs.length hc2)) 0 (Val.cells (.int .i64 (v + 1)))) 4 .sole))) (by kernel_rfl) (by kernel_rfl) ?_
    refine RunP.ret ?_
    exact APost.yes (applyM_yes hm hv hf hz (kindM_4.trans hM)) rfl (by kernel_rfl) (dirAt_ver m0 m1 hz3 hzn m2 hus hcap)

set_option maxRecDepth 100000 in
set_option maxHeartbeats 0 in
theorem apply_5 {n i : Nat} {v nx kz ke kt : Int} {kk : ByteArray} {zs : List Z} {sp : List Value} {c : Nat} {hs : List Int} {hc2 : Nat} {hst : Stat} {z : Z} (hz : zs[i]? = some z) (hsp : (flat zs ++ sp).length = c * 9) (hc : c < UNK) (hn : zs.length ≤ 1000) (hv0 : 0 ≤ v) (hnx : 0 ≤ nx) (hep : 0 ≤ z.ep) (hal : ∀ m : Mem, m.alive hst = true) (hce : (hs.length == 0 && hc2 == UNK) = false) (hhn : hs.length ≤ 1000) (hm : mayC (⟨5, kz, ke, kt, kk⟩ : Ch) = true) (hv : decide (1099511627776 ≤ v) = false) (hf : findM zs kz = ((i : Nat) : Int)) : RunP ctx (cl (n + 4)) 15 b15 (initSlots [ptr 0 0, .agg ⟨(⟨5, kz, ke, kt, kk⟩ : Ch).cells⟩]) (mS v nx zs sp c hs hc2 hst) (APost v nx zs (.slice (some ⟨2, 0, none⟩) hs.length hc2) (some (.cells (ints hs) 1 hst)) (applyM v nx zs hs (⟨5, kz, ke, kt, kk⟩ : Ch))) := by
  have hi0 : decide (((i : Nat) : Int) < 0) = false := decide_eq_false (by omega)
  have hv1 : v < 1099511627777 := by have := of_decide_eq_false hv; omega
  rw [b15_eq]
  refine RunP.seq ?_
  refine RunP.region ?_
  refine OpsP.rest (by kernel_rfl) ?_
  refine RunP.seq ?_
  refine RunP.seq ?_
  refine RunP.region ?_
  refine OpsP.take 4 (by kernel_rfl) ?_
  refine OpsP.stepAt hr15_1_0_4 (step_call (g := 37) (f := .func 37) (args := #[.tmp 10]) (ats := #[34]) (l := [.agg ⟨((⟨5, kz, ke, kt, kk⟩ : Ch)).cells⟩]) (by kernel_rfl) (by kernel_rfl) (by kernel_rfl) (by kernel_rfl) (call37 (k := (⟨5, kz, ke, kt, kk⟩ : Ch)) hm)) ?_
  refine OpsP.take 8 (by kernel_rfl) ?_
  refine OpsP.boolK 20 hr15_1_5_13 (by kernel_rfl) (decide (1099511627776 ≤ v)) (by kernel_rfl) hv ?_
  refine OpsP.rest (by kernel_rfl) ?_
  refine RunP.cond (t := false) (by kernel_rfl) (fun h => by cases h) fun _ => ?_
  refine RunP.skip ?_
  refine RunP.seq ?_
  refine RunP.plan plan15_3 (by kernel_rfl) (by kernel_rfl) ?_
  refine OpsP.rest (by kernel_rfl) ?_
  refine ⟨(again_k (v := .agg ⟨[.int .i64 (v), .int .i64 (nx), .slice (some ⟨1, 0, none⟩) zs.length c]⟩) (d := 25) (by kernel_rfl) (by kernel_rfl) (by kernel_rfl) (by kernel_rfl) (by kernel_rfl) (veq_aggO (by kernel_rfl)) (again_k (v := .int .i64 (kz)) (d := 27) (by kernel_rfl) (by kernel_rfl) (by kernel_rfl) (by kernel_rfl) (by kernel_rfl) (veq_int _ _) again_nil)), ?_⟩
  refine OpsP.stepAt hr15_3_6_0_0 (step_call (g := 38) (f := .func 38) (args := #[.tmp 25, .tmp 27]) (ats := #[30, 3]) (l := [.agg ⟨[.int .i64 (v), .int .i64 (nx), .slice (some ⟨1, 0, none⟩) zs.length c]⟩, .int .i64 (kz)]) (by kernel_rfl) (by kernel_rfl) (by kernel_rfl) (by kernel_rfl) (call38 (sp := sp) (by kernel_rfl) hc hn hf)) ?_
  refine OpsP.nil ?_
  refine ⟨again_nil, ?_⟩
  refine OpsP.rest (by kernel_rfl) ?_
  refine ⟨again_nil, ?_⟩
  refine RunP.seq ?_
  refine RunP.region ?_
  refine OpsP.restM (m1 := (mA v nx zs sp c hs hc2 hst (.cells (⟨5, kz, ke, kt, kk⟩ : Ch).cells 5 .sole) kindsO)) (by kernel_rfl) (by kernel_rfl) ?_
  refine RunP.seq ?_
  refine RunP.seq ?_
  refine RunP.plan plan15_5 (by kernel_rfl) (by kernel_rfl) ?_
  refine OpsP.takeM (m1 := (mA v nx zs sp c hs hc2 hst (.cells (⟨5, kz, ke, kt, kk⟩ : Ch).cells 5 .sole) kindsO)) 1 (by kernel_rfl) (by kernel_rfl) ?_
  refine OpsP.boolK 31 hr15_5_0_1_2_3_4_5_6_7_8_9_0_1 (by kernel_rfl) (decide (((i : Nat) : Int) < 0)) (by kernel_rfl) hi0 ?_
  refine OpsP.restM (m1 := (mA v nx zs sp c hs hc2 hst (.cells (⟨5, kz, ke, kt, kk⟩ : Ch).cells 5 .sole) kindsO)) (by kernel_rfl) (by kernel_rfl) ?_
  refine ⟨(again_k (v := .int .i64 5) (d := 34) (by kernel_rfl) (by kernel_rfl) (by kernel_rfl) (by kernel_rfl) (by kernel_rfl) (veq_int _ _) (again_k (v := .func (.func 43) ⟨[]⟩ ⟨[]⟩) (d := 36) (by kernel_rfl) (by kernel_rfl) (by kernel_rfl) (by kernel_rfl) (by kernel_rfl) (by kernel_rfl) (again_k (v := .agg ⟨[.int .i64 5, .int .i64 (kz), .int .i64 (ke), .int .i64 (kt), .string kk]⟩) (d := 39) (by kernel_rfl) (by kernel_rfl) (by kernel_rfl) (by kernel_rfl) (by kernel_rfl) (veq_aggO (by kernel_rfl)) again_nil))), ?_⟩
  refine opt_by (abortM nx zs i z (⟨5, kz, ke, kt, kk⟩ : Ch)) (fun hM => ?_) fun x hM => ?_
  ·
    refine OpsP.callE hr15_5_10_11_12_0_0 (f := .tmp 36) (args := #[.tmp 37, .tmp 38, .tmp 39]) (ats := #[24, 3, 34]) (g := 43) (bs := [ptr 0 0, .int .i64 ((i : Nat) : Int), .agg ⟨((⟨5, kz, ke, kt, kk⟩ : Ch)).cells⟩]) (by kernel_rfl) (by kernel_rfl) (by kernel_rfl) (by kernel_rfl) (KRes.no (abort_call (n := n) (k := (⟨5, kz, ke, kt, kk⟩ : Ch)) hz hsp hc hn hnx hep hal hce hhn) hM) ?_
    rintro u m' ⟨rfl, hd⟩
    refine OpsP.restM (m1 := m') (by kernel_rfl) (by kernel_rfl) ?_
    refine ⟨again_nil, ?_⟩
    refine RunP.cond (t := true) (by kernel_rfl) (fun _ => ?_) fun h => by cases h
    refine RunP.seq ?_
    refine RunP.region ?_
    refine OpsP.restM (m1 := m') (by kernel_rfl) (by kernel_rfl) ?_
    refine RunP.ret ?_
    exact APost.no (applyM_no hm hv hf hz (kindM_5.trans hM)) rfl (by kernel_rfl) hd
  ·
    refine OpsP.callE hr15_5_10_11_12_0_0 (f := .tmp 36) (args := #[.tmp 37, .tmp 38, .tmp 39]) (ats := #[24, 3, 34]) (g := 43) (bs := [ptr 0 0, .int .i64 ((i : Nat) : Int), .agg ⟨((⟨5, kz, ke, kt, kk⟩ : Ch)).cells⟩]) (by kernel_rfl) (by kernel_rfl) (by kernel_rfl) (by kernel_rfl) (KRes.yes (abort_call (n := n) (k := (⟨5, kz, ke, kt, kk⟩ : Ch)) hz hsp hc hn hnx hep hal hce hhn) hM) ?_
    rintro u m' ⟨rfl, hd⟩
    refine DirAt.elim hd fun z' c' sp' m0 m1 hz3 hzn m2 hus hcap => ?_
    refine OpsP.restM (m1 := m') (by kernel_rfl) (by kernel_rfl) ?_
    refine ⟨again_nil, ?_⟩
    refine RunP.cond (t := false) (by kernel_rfl) (fun h => by cases h) fun _ => ?_
    refine RunP.skip ?_
    refine RunP.seq ?_
    refine RunP.region ?_
    refine OpsP.takeM (m1 := m') 4 (by kernel_rfl) (by kernel_rfl) ?_
    refine OpsP.stepAt hr15_7_0_4 (step_load (t := 3) (a := .tmp 46) (b := 0) (off := 0) (ti := ⟨false, 1⟩) (cs := [.int .i64 v]) (v := .int .i64 v) (by kernel_rfl) (by kernel_rfl) (by kernel_rfl) (by kernel_rfl) (loadN_get m0 rfl (by simp [dirCells])) rfl) ?_
    refine OpsP.stepAt hr15_7_5_5 (step_add (t := 3) (w := 3) (x := .tmp 47) (y := .const (.int .i64 1)) (k := .i64) (a := v) (b := 1) (c := (v + 1)) (by kernel_rfl) (by kernel_rfl) (by kernel_rfl) (by kernel_rfl) (wrap_p1 hv0 hv1)) ?_
    refine OpsP.takeM (m1 := m') 3 (by kernel_rfl) (by kernel_rfl) ?_
    refine OpsP.stepAt hr15_7_6_9 (step_store (t := 3) (a := .tmp 51) (x := .tmp 48) (b := 0) (off := 0) (u := .int .i64 (v + 1)) (by kernel_rfl) (by kernel_rfl) (by kernel_rfl) (by kernel_rfl) info3_eq (by kernel_rfl) (by kernel_rfl) (storeN_sole (o := 0) (off := 0) (vs := dirCells v x.1 z' x.2.length c' (.slice (some ⟨2, 0, none⟩) hs.length hc2)) (e := 4) m0 (by simp [dirCells, Val.cells]) (by kernel_rfl))) ?_
    refine OpsP.nil ?_
    refine RunP.seq ?_
    refine RunP.region ?_
    refine OpsP.restM (m1 := (m'.put 0 (.cells (splice (dirCells v x.1 z' x.2.length c' (.slice (some ⟨2, 0, none⟩) hs.length hc2)) 0 (Val.cells (.int .i64 (v + 1)))) 4 .sole))) (by kernel_rfl) (by kernel_rfl) ?_
    refine RunP.ret ?_
    exact APost.yes (applyM_yes hm hv hf hz (kindM_5.trans hM)) rfl (by kernel_rfl) (dirAt_ver m0 m1 hz3 hzn m2 hus hcap)

end Go.Ev.Dir
