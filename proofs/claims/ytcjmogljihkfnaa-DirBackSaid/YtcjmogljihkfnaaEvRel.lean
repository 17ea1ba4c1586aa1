/- A part of an evaluator of the model and of the proof that what it answers the model does; no condition. -/
import Derived.Test.YtcjmogljihkfnaaEvTree
import Derived.Orders
import Derived.Below
import Derived.Laws.Cells
set_option linter.unusedVariables false
set_option linter.unusedSimpArgs false
namespace Go.Ev
open Go.RowKit (Below)

structure Loc where
  blk : Nat
  base : Nat
  esz : Nat
  csz : Nat

abbrev Mu := Nat → Option Loc

/-- values that are not known: an int or a string each -/
class Atoms where
  val : Nat → Value
  flat : ∀ j, (∃ k n, val j = .int k n) ∨ (∃ s, val j = .string s)

set_option linter.unusedSectionVars false
variable [Atoms]

def atom (j : Nat) : Value := .pointer (some ⟨j, 0, some 0⟩)

inductive VRel (μ : Mu) : Value → Value → Prop
  | atom (j : Nat) : VRel μ (.pointer (some ⟨j, 0, some 0⟩)) (Atoms.val j)
  | bool (b : Bool) : VRel μ (.bool b) (.bool b)
  | int (k : IntKind) (n : Int) : VRel μ (.int k n) (.int k n)
  | string (s : ByteArray) : VRel μ (.string s) (.string s)
  | pnil : VRel μ (.pointer none) (.pointer none)
  | ptr {o i : Nat} {l : Loc} : μ o = some l → VRel μ (.pointer (some ⟨o, i, none⟩)) (.pointer (some ⟨l.blk, l.base + i, none⟩))
  | snil : VRel μ (.slice none 0 0) (.slice none 0 0)
  | slice {o off n c c' : Nat} {l : Loc} : μ o = some l → (c < UNK → c' = c) → (UNK ≤ c → (szOf c = l.esz ∧ lbOf c ≤ c') ∧ 1 ≤ l.esz ∧ l.base + off + c' * l.esz ≤ l.csz ∧ n ≤ c') →
      VRel μ (.slice (some ⟨o, off, none⟩) n c) (.slice (some ⟨l.blk, l.base + off, none⟩) n c')
  | semp {a a' : Addr} {c' : Nat} : VRel μ (.slice (some a) 0 UNK) (.slice (some a') 0 c')
  | mnil : VRel μ (.map none) (.map none)
  | map {r : Nat} {l : Loc} : μ r = some l → VRel μ (.map (some r)) (.map (some l.blk))
  | nilFunc : VRel μ .nilFunc .nilFunc
  | func {fn : Fn} {as bs cs ds : List Value} : as.length = bs.length → (∀ (i : Nat) (u v : Value), as[i]? = some u → bs[i]? = some v → VRel μ u v) →
      cs.length = ds.length → (∀ (i : Nat) (u v : Value), cs[i]? = some u → ds[i]? = some v → VRel μ u v) → VRel μ (.func fn ⟨as⟩ ⟨cs⟩) (.func fn ⟨bs⟩ ⟨ds⟩)
  | nilIface : VRel μ .nilIface .nilIface
  | iface {t : TypeId} {u v : Value} : VRel μ u v → VRel μ (.iface t u) (.iface t v)
  | agg {as bs : List Value} : as.length = bs.length → (∀ (i : Nat) (u v : Value), as[i]? = some u → bs[i]? = some v → VRel μ u v) → VRel μ (.agg ⟨as⟩) (.agg ⟨bs⟩)
  | tuple {as bs : List Value} : as.length = bs.length → (∀ (i : Nat) (u v : Value), as[i]? = some u → bs[i]? = some v → VRel μ u v) → VRel μ (.tuple ⟨as⟩) (.tuple ⟨bs⟩)

/-- lists, place by place -/
structure LRel (μ : Mu) (as bs : List Value) : Prop where
  len : as.length = bs.length
  rel : ∀ (i : Nat) (u v : Value), as[i]? = some u → bs[i]? = some v → VRel μ u v

def Mu.le (μ ν : Mu) : Prop := ∀ o l, μ o = some l → ν o = some l

theorem Mu.le_refl (μ : Mu) : Mu.le μ μ := fun _ _ h => h
theorem Mu.le_trans {μ ν ξ : Mu} (h : Mu.le μ ν) (k : Mu.le ν ξ) : Mu.le μ ξ := fun o l e => k o l (h o l e)

theorem VRel.mono {μ ν : Mu} (hle : Mu.le μ ν) {u v : Value} (h : VRel μ u v) : VRel ν u v := by
  induction h with
  | atom j => exact .atom j
  | bool b => exact .bool b
  | int k n => exact .int k n
  | string s => exact .string s
  | pnil => exact .pnil
  | ptr h => exact .ptr (hle _ _ h)
  | snil => exact .snil
  | slice h a b => exact .slice (hle _ _ h) a b
  | semp => exact .semp
  | mnil => exact .mnil
  | map h => exact .map (hle _ _ h)
  | nilFunc => exact .nilFunc
  | func h1 _ h3 _ i1 i2 => exact .func h1 i1 h3 i2
  | nilIface => exact .nilIface
  | iface _ ih => exact .iface ih
  | agg h _ ih => exact .agg h ih
  | tuple h _ ih => exact .tuple h ih

theorem LRel.mono {μ ν : Mu} (hle : Mu.le μ ν) {as bs : List Value} (h : LRel μ as bs) : LRel ν as bs := ⟨h.len, fun i u v a b => (h.rel i u v a b).mono hle⟩

theorem LRel.nil {μ : Mu} : LRel μ [] [] := ⟨rfl, fun i u v h => by simp at h⟩
theorem LRel.cons {μ : Mu} {u v : Value} {as bs : List Value} (h : VRel μ u v) (t : LRel μ as bs) : LRel μ (u :: as) (v :: bs) :=
  ⟨by simp [t.len], fun i x y hx hy => by
    cases i with
    | zero => simp at hx hy; subst hx; subst hy; exact h
    | succ i => simp at hx hy; exact t.rel i x y hx hy⟩
theorem LRel.head {μ : Mu} {u v : Value} {as bs : List Value} (h : LRel μ (u :: as) (v :: bs)) : VRel μ u v := h.rel 0 u v rfl rfl
theorem LRel.tail {μ : Mu} {u v : Value} {as bs : List Value} (h : LRel μ (u :: as) (v :: bs)) : LRel μ as bs :=
  ⟨by have := h.len; simpa using this, fun i x y hx hy => h.rel (i + 1) x y (by simpa using hx) (by simpa using hy)⟩
theorem LRel.nil_left {μ : Mu} {bs : List Value} (h : LRel μ [] bs) : bs = [] := by
  have := h.len; simp at this; exact List.length_eq_zero_iff.1 this.symm
theorem LRel.cons_left {μ : Mu} {u : Value} {as bs : List Value} (h : LRel μ (u :: as) bs) : ∃ v bs', bs = v :: bs' ∧ VRel μ u v ∧ LRel μ as bs' := by
  cases bs with
  | nil => have := h.len; simp at this
  | cons v bs' => exact ⟨v, bs', rfl, h.head, h.tail⟩
theorem LRel.get {μ : Mu} {as bs : List Value} (h : LRel μ as bs) {i : Nat} {u : Value} (hu : as[i]? = some u) : ∃ v, bs[i]? = some v ∧ VRel μ u v := by
  have hi : i < as.length := (List.getElem?_eq_some_iff.1 hu).1
  have hb : i < bs.length := h.len ▸ hi
  exact ⟨bs[i], List.getElem?_eq_getElem hb, h.rel i u _ hu (List.getElem?_eq_getElem hb)⟩
theorem LRel.append {μ : Mu} {as bs cs ds : List Value} (h : LRel μ as bs) (k : LRel μ cs ds) : LRel μ (as ++ cs) (bs ++ ds) :=
  ⟨by simp [h.len, k.len], fun i u v hu hv => by
    by_cases hi : i < as.length
    · rw [List.getElem?_append_left hi] at hu
      rw [List.getElem?_append_left (h.len ▸ hi)] at hv
      exact h.rel i u v hu hv
    · rw [List.getElem?_append_right (by omega)] at hu
      rw [List.getElem?_append_right (by have := h.len; omega)] at hv
      rw [← h.len] at hv
      exact k.rel _ u v hu hv⟩
theorem LRel.take {μ : Mu} {as bs : List Value} (h : LRel μ as bs) (n : Nat) : LRel μ (as.take n) (bs.take n) :=
  ⟨by simp [h.len], fun i u v hu hv => by
    rw [List.getElem?_take] at hu hv
    split at hu
    · rename_i hi; rw [if_pos hi] at hv; exact h.rel i u v hu hv
    · cases hu⟩
theorem LRel.drop {μ : Mu} {as bs : List Value} (h : LRel μ as bs) (n : Nat) : LRel μ (as.drop n) (bs.drop n) :=
  ⟨by simp [h.len], fun i u v hu hv => by
    rw [List.getElem?_drop] at hu hv
    exact h.rel _ u v hu hv⟩
theorem LRel.same {μ : Mu} {l : List Value} (h : ∀ u ∈ l, VRel μ u u) : LRel μ l l :=
  ⟨rfl, fun i u v hu hv => by rw [hu] at hv; cases hv; exact h u (List.mem_of_getElem? hu)⟩
theorem LRel.splice {μ : Mu} {as bs xs ys : List Value} (h : LRel μ as bs) (k : LRel μ xs ys) (n : Nat) : LRel μ (splice as n xs) (splice bs n ys) := by
  unfold Ev.splice
  rw [k.len]
  exact ((h.take n).append k).append (h.drop _)

theorem VRel.agg' {μ : Mu} {as bs : List Value} (h : LRel μ as bs) : VRel μ (.agg ⟨as⟩) (.agg ⟨bs⟩) := .agg h.len h.rel
theorem VRel.tuple' {μ : Mu} {as bs : List Value} (h : LRel μ as bs) : VRel μ (.tuple ⟨as⟩) (.tuple ⟨bs⟩) := .tuple h.len h.rel
theorem VRel.undef {μ : Mu} : VRel μ (.tuple ⟨[]⟩) (.tuple ⟨[]⟩) := .tuple rfl (fun i u v h => by simp at h)

theorem VRel.isCell {μ : Mu} {u v : Value} (h : VRel μ u v) : isCell v = isCell u := by
  cases h with
  | atom j => rcases Atoms.flat j with ⟨k, n, e⟩ | ⟨s, e⟩ <;> rw [e] <;> rfl
  | _ => rfl
theorem isCell_oneCell (v : Value) : v.oneCell' = isCell v := by cases v <;> rfl
theorem LRel.isCell {μ : Mu} {as bs : List Value} (h : LRel μ as bs) (ha : as.all isCell = true) : ∀ v ∈ bs, v.oneCell' = true := by
  intro v hv
  obtain ⟨i, hi, rfl⟩ := List.getElem_of_mem hv
  have ha' : i < as.length := h.len ▸ hi
  have := h.rel i as[i] bs[i] (List.getElem?_eq_getElem ha') (List.getElem?_eq_getElem hi)
  rw [isCell_oneCell, this.isCell]
  exact List.all_eq_true.1 ha _ (List.getElem_mem ha')

theorem VRel.cells {μ : Mu} {u v : Value} (h : VRel μ u v) : LRel μ (Val.cells u) v.cells.toList := by
  cases h with
  | atom j =>
    have e : (Atoms.val j).cells.toList = [Atoms.val j] := by rcases Atoms.flat j with ⟨k, n, e⟩ | ⟨s, e⟩ <;> rw [e] <;> rfl
    rw [e]
    exact .cons (.atom j) .nil
  | agg h1 h2 => exact ⟨h1, h2⟩
  | bool b => exact .cons (.bool b) .nil
  | int k n => exact .cons (.int k n) .nil
  | string s => exact .cons (.string s) .nil
  | pnil => exact .cons .pnil .nil
  | ptr h => exact .cons (.ptr h) .nil
  | snil => exact .cons .snil .nil
  | slice h a b => exact .cons (.slice h a b) .nil
  | semp => exact .cons .semp .nil
  | mnil => exact .cons .mnil .nil
  | map h => exact .cons (.map h) .nil
  | nilFunc => exact .cons .nilFunc .nil
  | func h1 h2 h3 h4 => exact .cons (.func h1 h2 h3 h4) .nil
  | nilIface => exact .cons .nilIface .nil
  | iface h => exact .cons (.iface h) .nil
  | tuple h1 h2 => exact .cons (.tuple h1 h2) .nil

def Stat.grp : Stat → Option Nat
  | .ro | .sole => none
  | .tip g | .old g => some g

/-- entries of a map -/
structure ERel (μ : Mu) (es : List (Value × Value)) (fs : Array MapEntry) : Prop where
  len : es.length = fs.size
  rel : ∀ (i : Nat) (k v : Value) (e : MapEntry), es[i]? = some (k, v) → fs[i]? = some e → VRel μ k e.key ∧ VRel μ v e.val

structure CellsRel (B : Nat) (μ : Mu) (m : Mem) (w : World) (l : Loc) (vs : List Value) (e : Nat) (st : Stat) : Prop where
  esz : e = l.esz
  grp : ∀ g, st.grp = some g → g < m.next
  blk : ∃ c el fz, w.heap[l.blk]? = some (.cells c el fz) ∧ c.size = l.csz ∧ l.base + vs.length ≤ c.size ∧
    (st ≠ .ro → B ≤ l.blk ∧ ∀ i : Nat, i < c.size → ¬ (fz.1 ≤ i ∧ i < fz.2)) ∧
    (m.alive st = true → ∀ (i : Nat) (v : Value), vs[i]? = some v → ∃ v', c[l.base + i]? = some v' ∧ VRel μ v v')

structure MapRel (B : Nat) (μ : Mu) (w : World) (l : Loc) (es : List (Value × Value)) : Prop where
  own : B ≤ l.blk
  blk : ∃ fs ck, w.heap[l.blk]? = some (.map fs ck) ∧ ERel μ es fs

def ObjRel (B : Nat) (μ : Mu) (m : Mem) (w : World) (l : Loc) : Option AObj → Prop
  | some (.cells vs e st) => CellsRel B μ m w l vs e st
  | some (.map es _) => MapRel B μ w l es
  | _ => False

/-- two objects of one block -/
def Share (m : Mem) (l1 l2 : Loc) : Option AObj → Option AObj → Prop
  | some (.cells vs1 _ st1), some (.cells vs2 _ st2) =>
    m.alive st1 = true → m.alive st2 = true → (st1 = .ro ∧ st2 = .ro) ∨
      (∃ g, st1.grp = some g ∧ st2.grp = some g ∧ (st1 = .tip g → st2 = .old g ∧ l2.base + vs2.length ≤ l1.base + vs1.length))
  | _, _ => False

structure Rel (B : Nat) (w0 : World) (μ : Mu) (m : Mem) (w : World) : Prop where
  below : Below B w0 w
  base : B ≤ w.heap.size
  dom : ∀ o l, μ o = some l → o < m.next ∧ l.blk < w.heap.size
  obj : ∀ o l, μ o = some l → ObjRel B μ m w l (m.get o)
  sep : ∀ o1 o2 l1 l2, o1 ≠ o2 → μ o1 = some l1 → μ o2 = some l2 → l1.blk = l2.blk → Share m l1 l2 (m.get o1) (m.get o2)

/-- what a step adds to the names: nothing old is renamed; what has no name is not touched -/
structure Ext (μ : Mu) (m : Mem) (μ' : Mu) (m' : Mem) : Prop where
  next : m.next ≤ m'.next
  mu : ∀ o, o < m.next → μ' o = μ o
  frame : ∀ o, o < m.next → μ o = none → (∀ a : Bool, m.get o ≠ some (.group a)) → m'.get o = m.get o
  grow : ∀ o l, μ o = some l → μ' o = some l

theorem Ext.refl (μ : Mu) (m : Mem) : Ext μ m μ m := ⟨Nat.le_refl _, fun _ _ => rfl, fun _ _ _ _ => rfl, fun _ _ h => h⟩
theorem Ext.trans {μ μ' μ'' : Mu} {m m' m'' : Mem} (h : Ext μ m μ' m') (k : Ext μ' m' μ'' m'') : Ext μ m μ'' m'' where
  next := Nat.le_trans h.next k.next
  mu o ho := (k.mu o (Nat.lt_of_lt_of_le ho h.next)).trans (h.mu o ho)
  frame o ho hn hg := by
    have h1 := h.frame o ho hn hg
    rw [← h1]
    exact k.frame o (Nat.lt_of_lt_of_le ho h.next) ((h.mu o ho).trans hn) (by rw [h1]; exact hg)
  grow o l e := k.grow o l (h.grow o l e)
theorem Ext.le {μ μ' : Mu} {m m' : Mem} (h : Ext μ m μ' m') : Mu.le μ μ' := h.grow

end Go.Ev
