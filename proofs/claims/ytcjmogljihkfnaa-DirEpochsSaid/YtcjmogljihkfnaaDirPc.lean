/- A function that changes a Dir is told by what it leaves; Apply of the program's Dir; no condition. -/
import Derived.Test.YtcjmogljihkfnaaDirPb
import Derived.Test.YtcjmogljihkfnaaEvD
import Derived.Test.YtcjmogljihkfnaaDirPa
import Derived.Deep.Slices
set_option linter.unusedVariables false
set_option linter.unusedSimpArgs false
namespace Go.Ev.Dir
open Go.Ev Go.Proofs
set_option linter.unusedSectionVars false
set_option linter.unusedVariables false

theorem findN_spec : ∀ (l : List Z) (id : Int) (i0 : Nat), findN l id i0 = -1 ∨ ∃ (j : Nat) (z : Z), findN l id i0 = ((i0 + j : Nat) : Int) ∧ l[j]? = some z ∧ z.id = id
  | [], id, i0 => .inl rfl
  | z :: r, id, i0 => by
    unfold findN
    cases hq : decide (z.id = id) with
    | true => exact .inr ⟨0, z, rfl, rfl, of_decide_eq_true hq⟩
    | false =>
      rcases findN_spec r id (i0 + 1) with h | ⟨j, y, h1, h2, h3⟩
      · exact .inl h
      · refine .inr ⟨j + 1, y, ?_, h2, h3⟩
        simp only [cond_false]
        rw [h1]
        congr 1
        omega

theorem mayC_kind {k : Ch} (h : mayC k = true) : k.kind = 1 ∨ k.kind = 2 ∨ k.kind = 3 ∨ k.kind = 4 ∨ k.kind = 5 := by
  unfold mayC mayK at h
  by_cases h1 : k.kind = 1
  · exact .inl h1
  by_cases h2 : k.kind = 2
  · exact .inr (.inl h2)
  by_cases h3 : k.kind = 3
  · exact .inr (.inr (.inl h3))
  by_cases h4 : k.kind = 4
  · exact .inr (.inr (.inr (.inl h4)))
  by_cases h5 : k.kind = 5
  · exact .inr (.inr (.inr (.inr h5)))
  simp [h1, h2, h3, h4, h5] at h

section
variable [Atoms]

theorem apply_run {n : Nat} {v nx : Int} {zs : List Z} {sp : List Value} {c : Nat} {hs : List Int} {hc2 : Nat} {hst : Stat} {k : Ch} (hsp : (flat zs ++ sp).length = c * 9) (hc : c < UNK) (hn : zs.length ≤ 1000) (hv0 : 0 ≤ v) (hnx : 0 ≤ nx) (hep : ∀ z ∈ zs, 0 ≤ z.ep) (hal : ∀ m : Mem, m.alive hst = true) (hce : (hs.length == 0 && hc2 == UNK) = false) (hhn : hs.length ≤ 1000) :
    RunP ctx (cl (n + 4)) 15 b15 (initSlots [ptr 0 0, .agg ⟨k.cells⟩]) (mS v nx zs sp c hs hc2 hst) (APost v nx zs (.slice (some ⟨2, 0, none⟩) hs.length hc2) (some (.cells (ints hs) 1 hst)) (applyM v nx zs hs k)) := by
  obtain ⟨kd, kz, ke, kt, kk⟩ := k
  cases hm : mayC ⟨kd, kz, ke, kt, kk⟩ with
  | false => exact apply_no1 (i := 0) (z := z0) hsp hc hn hm
  | true =>
    cases hv : decide (1099511627776 ≤ v) with
    | true => exact apply_no2 (i := 0) (z := z0) hsp hc hn hm hv
    | false =>
      rcases findN_spec zs kz 0 with h | ⟨i, z, h1, h2, h3⟩
      · exact apply_no3 (i := 0) (z := z0) (f := -1) hsp hc hn hm hv h rfl
      · have hf : findM zs kz = (i : Int) := by unfold findM; rw [h1, Nat.zero_add]
        have he : 0 ≤ z.ep := hep z (List.mem_of_getElem? h2)
        have hk := mayC_kind hm
        simp only at hk
        rcases hk with rfl | rfl | rfl | rfl | rfl
        · exact apply_1 h2 hsp hc hn hv0 hnx he hal hce hhn hm hv hf
        · exact apply_2 h2 hsp hc hn hv0 hnx he hal hce hhn hm hv hf
        · exact apply_3 h2 hsp hc hn hv0 hnx he hal hce hhn hm hv hf
        · exact apply_4 h2 hsp hc hn hv0 hnx he hal hce hhn hm hv hf
        · exact apply_5 h2 hsp hc hn hv0 hnx he hal hce hhn hm hv hf

/-- what a function leaves: does it answer true; the version, the next number, the zones -/
abbrev DR := Bool × Int × Int × List Z
def apP (v nx : Int) (zs : List Z) (hs : List Int) (k : Ch) : DR := match applyM v nx zs hs k with
  | some x => (true, x)
  | none => (false, v, nx, zs)

theorem apply_call {n : Nat} {v nx : Int} {zs : List Z} {sp : List Value} {c : Nat} {hs : List Int} {hc2 : Nat} {k : Ch} (hsp : (flat zs ++ sp).length = c * 9) (hc : c < UNK) (hn : zs.length ≤ 1000) (hv0 : 0 ≤ v) (hnx : 0 ≤ nx) (hep : ∀ z ∈ zs, 0 ≤ z.ep) (hce : (hs.length == 0 && hc2 == UNK) = false) (hhn : hs.length ≤ 1000) :
    ∃ m1, cl (n + 5) 15 [ptr 0 0, .agg ⟨k.cells⟩] (mS v nx zs sp c hs hc2 .ro) = some (.bool (apP v nx zs hs k).1, m1) ∧
      DirAt m1 (apP v nx zs hs k).2.1 (apP v nx zs hs k).2.2.1 (apP v nx zs hs k).2.2.2 (.slice (some ⟨2, 0, none⟩) hs.length hc2) (some (.cells (ints hs) 1 .ro)) := by
  rw [cl_fun (fn := Try.f15) (by kernel_rfl) (by kernel_rfl)]
  obtain ⟨u, m1, h1, h2, h3⟩ := runFn_of (C := ctx) (call := cl (n + 4)) (fid := 15) (fn := Try.f15) (args := [ptr 0 0, .agg ⟨k.cells⟩]) (m := mS v nx zs sp c hs hc2 .ro)
    (R := fun u m1 => u = .bool (apP v nx zs hs k).1 ∧ DirAt m1 (apP v nx zs hs k).2.1 (apP v nx zs hs k).2.2.1 (apP v nx zs hs k).2.2.2 (.slice (some ⟨2, 0, none⟩) hs.length hc2) (some (.cells (ints hs) 1 .ro))) b15_body (by kernel_rfl)
    (RunP.mono (apply_run (n := n) (k := k) hsp hc hn hv0 hnx hep (fun _ => rfl) hce hhn) fun e s m1 ⟨h1, h2, h3⟩ => ⟨fun id q => (by rw [h1] at q; cases q), [s.get 4], by rw [ret15]; rfl, by
      show s.get 4 = _ ∧ _
      rw [h2]
      unfold apP
      cases ho : applyM v nx zs hs k with
      | none => rw [ho] at h3; exact ⟨rfl, h3⟩
      | some x => rw [ho] at h3; exact ⟨rfl, h3⟩⟩)
  subst h2
  exact ⟨m1, h1, h3⟩

/-- the memory behind a change of the Dir at d -/
def memD (m : Mem) (d z ho : Nat) (vs : List Value) (hn hc : Nat) (v nx : Int) (zs : List Z) : Mem :=
  (((m.put d (.cells (dirCells v nx (m.next + 1) zs.length (UNK + 9 + UNK * zs.length) (.slice (some ⟨ho, 0, none⟩) hn hc)) 4 .sole)).put z (.cells vs 9 (.old m.next))).new (.group false)).new (.cells (flat zs) 9 .sole)

def gD (e1 e2 e3 n c hn hc : Nat) (vs hvs : List Value) (v nx : Int) : Bool :=
  Nat.beq e1 4 && (Nat.beq e2 9 && (Nat.beq e3 1 && (!(n == 0 && c == UNK) && (Nat.ble n 1000 && (Nat.ble hn 1000 && (Nat.ble hn hvs.length && (!(hn == 0 && hc == UNK) && (decide (0 ≤ v) && (decide (0 ≤ nx) && (Nat.ble UNK c || (Nat.ble (c * 9) vs.length && Nat.ble n c)))))))))))

def TD (ap : Int → Int → List Z → List Int → Ch → DR) : List Value → Mem → Ret := fun args m => match args with
  | [.pointer (some ⟨d, 0, none⟩), .agg ⟨[.int .i64 kd, .int .i64 kz, .int .i64 ke, .int .i64 kt, .string kk]⟩] => (match m.get d with
    | some (.cells [.int .i64 v, .int .i64 nx, .slice (some ⟨z, 0, none⟩) n c, .slice (some ⟨ho, 0, none⟩) hn hc] e1 .sole) => (match m.get z, m.get ho with
      | some (.cells vs e2 .sole), some (.cells hvs e3 .ro) =>
        bif gD e1 e2 e3 n c hn hc vs hvs v nx then
          (parse n (vs.take (9 * n))).bind fun zs => (unints (hvs.take hn)).bind fun hs =>
            bif zs.all (fun z => decide (0 ≤ z.ep)) then
              some (.bool (ap v nx zs hs ⟨kd, kz, ke, kt, kk⟩).1, memD m d z ho vs hn hc (ap v nx zs hs ⟨kd, kz, ke, kt, kk⟩).2.1 (ap v nx zs hs ⟨kd, kz, ke, kt, kk⟩).2.2.1 (ap v nx zs hs ⟨kd, kz, ke, kt, kk⟩).2.2.2)
            else none
        else none
      | _, _ => none)
    | _ => none)
  | _ => none

theorem TD_spec {ap : Int → Int → List Z → List Int → Ch → DR} {args : List Value} {m m' : Mem} {u : Value} (h : TD ap args m = some (u, m')) :
    ∃ (d z ho : Nat) (k : Ch) (v nx : Int) (c hc : Nat) (vs hvs : List Value) (zs : List Z) (hs : List Int), args = [ptr d 0, .agg ⟨k.cells⟩] ∧ m.get d = some (.cells (dirCells v nx z zs.length c (.slice (some ⟨ho, 0, none⟩) hs.length hc)) 4 .sole) ∧
      m.get z = some (.cells vs 9 .sole) ∧ m.get ho = some (.cells hvs 1 .ro) ∧ (zs.length == 0 && c == UNK) = false ∧ zs.length ≤ 1000 ∧ hs.length ≤ 1000 ∧ (hs.length == 0 && hc == UNK) = false ∧ 0 ≤ v ∧ 0 ≤ nx ∧ (UNK ≤ c ∨ (c * 9 ≤ vs.length ∧ zs.length ≤ c)) ∧
      vs.take (9 * zs.length) = flat zs ∧ hvs.take hs.length = ints hs ∧ (∀ z ∈ zs, 0 ≤ z.ep) ∧ u = .bool (ap v nx zs hs k).1 ∧ m' = memD m d z ho vs hs.length hc (ap v nx zs hs k).2.1 (ap v nx zs hs k).2.2.1 (ap v nx zs hs k).2.2.2 := by
  unfold TD at h
  split at h
  · rename_i d kd kz ke kt kk
    split at h
    · rename_i v nx z n c ho hn hc e1 hd
      split at h
      · rename_i vs e2 hvs e3 hz hh
        cases hg : gD e1 e2 e3 n c hn hc vs hvs v nx with
        | false => rw [hg] at h; cases h
        | true =>
          rw [hg] at h
          simp only [cond_true] at h
          obtain ⟨zs, h1, k1⟩ := Option.bind_eq_some_iff.1 h
          obtain ⟨hs, h2, k2⟩ := Option.bind_eq_some_iff.1 k1
          obtain ⟨p1, p2⟩ := parse_spec h1
          have q1 := unints_spec h2
          subst p2
          cases ha : zs.all (fun z => decide (0 ≤ z.ep)) with
          | false => rw [ha] at k2; cases k2
          | true =>
            rw [ha] at k2
            simp only [cond_true, Option.some.injEq, Prod.mk.injEq] at k2
            unfold gD at hg
            simp only [Bool.and_eq_true, Bool.or_eq_true, Bool.not_eq_true', decide_eq_true_eq] at hg
            obtain ⟨a1, a2, a3, a4, a5, a6, a7, a8, a9, a10, a11⟩ := hg
            have := Nat.eq_of_beq_eq_true a1; subst this
            have := Nat.eq_of_beq_eq_true a2; subst this
            have := Nat.eq_of_beq_eq_true a3; subst this
            have hl : hs.length = hn := by
              have h3 := congrArg List.length q1
              have h4 := Nat.le_of_ble_eq_true a7
              simp [ints] at h3
              omega
            subst hl
            refine ⟨d, z, ho, ⟨kd, kz, ke, kt, kk⟩, v, nx, c, hc, vs, hvs, zs, hs, rfl, hd, hz, hh, a4, Nat.le_of_ble_eq_true a5, Nat.le_of_ble_eq_true a6, a8, a9, a10, ?_, p1, q1, ?_, k2.1.symm, k2.2.symm⟩
            · rcases a11 with a | a
              · exact .inl (Nat.le_of_ble_eq_true a)
              · exact .inr ⟨Nat.le_of_ble_eq_true a.1, Nat.le_of_ble_eq_true a.2⟩
            · intro z hz
              exact of_decide_eq_true (List.all_eq_true.1 ha z hz)
      · cases h
    · cases h
  · cases h

theorem TD_eq {ap : Int → Int → List Z → List Int → Ch → DR} {m : Mem} {d z ho : Nat} {k : Ch} {v nx : Int} {c hc : Nat} {zs : List Z} {hs : List Int} {rest : List Value} (hd : m.get d = some (.cells (dirCells v nx z zs.length c (.slice (some ⟨ho, 0, none⟩) hs.length hc)) 4 .sole))
    (hz : m.get z = some (.cells (flat zs ++ rest) 9 .sole)) (hh : m.get ho = some (.cells (ints hs) 1 .ro)) (hce : (zs.length == 0 && c == UNK) = false) (hn : zs.length ≤ 1000) (hhn : hs.length ≤ 1000) (hhe : (hs.length == 0 && hc == UNK) = false) (hv : 0 ≤ v) (hnx : 0 ≤ nx) (hcc : UNK ≤ c ∨ (c * 9 ≤ (flat zs ++ rest).length ∧ zs.length ≤ c)) (hep : ∀ z ∈ zs, 0 ≤ z.ep) :
    TD ap [ptr d 0, .agg ⟨k.cells⟩] m = some (.bool (ap v nx zs hs k).1, memD m d z ho (flat zs ++ rest) hs.length hc (ap v nx zs hs k).2.1 (ap v nx zs hs k).2.2.1 (ap v nx zs hs k).2.2.2) := by
  obtain ⟨kd, kz, ke, kt, kk⟩ := k
  have hl : (ints hs).length = hs.length := by simp [ints]
  unfold TD ptr
  simp only [Ch.cells, hd, dirCells, hz, hh]
  have hg : gD 4 9 1 zs.length c hs.length hc (flat zs ++ rest) (ints hs) v nx = true := by
    unfold gD
    simp only [Bool.and_eq_true, Bool.or_eq_true, Bool.not_eq_true', decide_eq_true_eq]
    refine ⟨rfl, rfl, rfl, hce, Nat.ble_eq_true_of_le hn, Nat.ble_eq_true_of_le hhn, Nat.ble_eq_true_of_le (by omega), hhe, hv, hnx, ?_⟩
    rcases hcc with h | h
    · exact .inl (Nat.ble_eq_true_of_le h)
    · exact .inr ⟨Nat.ble_eq_true_of_le h.1, Nat.ble_eq_true_of_le h.2⟩
  rw [hg]
  simp only [cond_true]
  rw [List.take_append_of_le_length (by rw [flat_length]; omega), ← flat_length, List.take_length, parse_flat]
  simp only [Option.bind_some]
  rw [show (ints hs).take hs.length = ints hs from by rw [← hl, List.take_length], unints_ints]
  simp only [Option.bind_some]
  rw [show zs.all (fun z => decide (0 ≤ z.ep)) = true from List.all_eq_true.2 fun z hz => decide_eq_true (hep z hz)]
  rfl

end
end Go.Ev.Dir

namespace Go.Ev.Dir
open Go.Ev Go.Proofs
set_option linter.unusedSectionVars false
set_option linter.unusedVariables false
set_option linter.unusedSimpArgs false

section
variable [Atoms] {B : Nat → Prop} {w0 : World}

/-- a slice's capacity, as it is -/
theorem VRel.slice_inv {μ : Mu} {o off n c : Nat} {v' : Value} (h : VRel μ (.slice (some ⟨o, off, none⟩) n c) v') (he : (n == 0 && c == UNK) = false) : ∃ l c', μ o = some l ∧ v' = .slice (some ⟨l.blk, l.base + off, none⟩) n c' ∧ (c < UNK → c' = c) ∧ (UNK ≤ c → (szOf c = l.esz ∧ lbOf c ≤ c' ∧ c' < UNK) ∧ 1 ≤ l.esz ∧ l.base + off + c' * l.esz ≤ l.csz ∧ n ≤ c') := by
  cases h with
  | slice h1 h2 h3 => exact ⟨_, _, h1, rfl, h2, h3⟩
  | semp => simp at he

theorem ptr_inv {μ : Mu} {o off : Nat} {v' : Value} (h : VRel μ (ptr o off) v') : ∃ l, μ o = some l ∧ v' = .pointer (some ⟨l.blk, l.base + off, none⟩) := by
  unfold ptr at h
  cases h with
  | ptr h => exact ⟨_, h, rfl⟩

/-- the memory that is kept of the caller's -/
def mK (v nx : Int) (zs : List Z) (c : Nat) (hs : List Int) (hc : Nat) : Mem :=
  ⟨.node (some (.cells (dirCells v nx 1 zs.length c (.slice (some ⟨2, 0, none⟩) hs.length hc)) 4 .sole)) (.node (some (.cells (flat zs) 9 .sole)) .leaf .leaf) (.node (some (.cells (ints hs) 1 .ro)) .leaf .leaf), 3⟩
def sg (d z ho : Nat) (i : Nat) : Nat := if i = 0 then d else if i = 1 then z else ho

theorem keepsD {m : Mem} {d z ho : Nat} {v nx : Int} {c hc : Nat} {vs hvs : List Value} {zs : List Z} {hs : List Int} (hd : m.get d = some (.cells (dirCells v nx z zs.length c (.slice (some ⟨ho, 0, none⟩) hs.length hc)) 4 .sole))
    (hz : m.get z = some (.cells vs 9 .sole)) (hh : m.get ho = some (.cells hvs 1 .ro)) (hce : (zs.length == 0 && c == UNK) = false) (hhe : (hs.length == 0 && hc == UNK) = false) (hf : vs.take (9 * zs.length) = flat zs) (hi : hvs.take hs.length = ints hs) :
    Keeps (sg d z ho) m (mK v nx zs c hs hc) where
  inj i j hi hj h := by
    have h1 : i = 0 ∨ i = 1 ∨ i = 2 := by have : i < 3 := hi; omega
    have h2 : j = 0 ∨ j = 1 ∨ j = 2 := by have : j < 3 := hj; omega
    have a1 : d ≠ z := by rintro rfl; rw [hd] at hz; simp at hz
    have a2 : d ≠ ho := by rintro rfl; rw [hd] at hh; simp at hh
    have a3 : z ≠ ho := by rintro rfl; rw [hz] at hh; simp at hh
    rcases h1 with rfl | rfl | rfl <;> rcases h2 with rfl | rfl | rfl <;> simp [sg] at h ⊢ <;> first | exact a1 h | exact a1 h.symm | exact a2 h | exact a2 h.symm | exact a3 h | exact a3 h.symm
  obj i hi' := by
    have h1 : i = 0 ∨ i = 1 ∨ i = 2 := by have : i < 3 := hi'; omega
    rcases h1 with rfl | rfl | rfl
    · exact ⟨_, _, 4, .sole, rfl, hd, .inr rfl, .cons (VRen.int _ _) (.cons (VRen.int _ _) (.cons (VRen.slice (show 1 < 3 by decide) rfl hce) (.cons (VRen.slice (show 2 < 3 by decide) rfl hhe) .nil)))⟩
    · exact ⟨_, _, 9, .sole, rfl, hz, .inr rfl, by rw [flat_length, hf]; exact LRen.zones zs⟩
    · exact ⟨_, _, 1, .ro, rfl, hh, .inl rfl, by rw [show (ints hs).length = hs.length from by simp [ints], hi]; exact LRen.ints hs⟩

theorem alive_memD {m : Mem} {d z ho : Nat} {vs : List Value} {hn hc : Nat} {v nx : Int} {zs : List Z} (hd : ∀ a : Bool, m.get d ≠ some (.group a)) (hz : ∀ a : Bool, m.get z ≠ some (.group a)) (st : Stat) (hg : ∀ g, st.grp = some g → g < m.next) :
    (memD m d z ho vs hn hc v nx zs).alive st = m.alive st := by
  have key : ∀ g, g < m.next → (match (memD m d z ho vs hn hc v nx zs).get g with | some (.group true) => true | _ => false) = (match m.get g with | some (.group true) => true | _ => false) := by
    intro g hlt
    unfold memD
    rw [Mem.get_new, if_neg (by show g ≠ m.next + 1; omega), Mem.get_new, if_neg (by show g ≠ m.next; omega), Mem.get_put]
    by_cases h1 : g = z
    · subst h1
      rw [if_pos rfl]
      cases hx : m.get g with
      | none => rfl
      | some x =>
        cases x with
        | group a => exact absurd hx (hz a)
        | cells => rfl
        | map => rfl
    · rw [if_neg h1, Mem.get_put]
      by_cases h2 : g = d
      · subst h2
        rw [if_pos rfl]
        cases hx : m.get g with
        | none => rfl
        | some x =>
          cases x with
          | group a => exact absurd hx (hd a)
          | cells => rfl
          | map => rfl
      · rw [if_neg h2]
  cases st with
  | ro => rfl
  | sole => rfl
  | tip g => exact key g (hg g rfl)
  | old g => exact key g (hg g rfl)


section
variable {m : Mem} {d z ho : Nat} {vs : List Value} {hn hc : Nat} {v nx : Int} {zs : List Z}
theorem memD_d (h : d ≠ z) (hl : d < m.next) : (memD m d z ho vs hn hc v nx zs).get d = some (.cells (dirCells v nx (m.next + 1) zs.length (UNK + 9 + UNK * zs.length) (.slice (some ⟨ho, 0, none⟩) hn hc)) 4 .sole) := by
  unfold memD
  rw [Mem.get_new, if_neg (by show d ≠ m.next + 1; omega), Mem.get_new, if_neg (by show d ≠ m.next; omega), Mem.get_put, if_neg h, Mem.get_put, if_pos rfl]
theorem memD_z (hl : z < m.next) : (memD m d z ho vs hn hc v nx zs).get z = some (.cells vs 9 (.old m.next)) := by
  unfold memD
  rw [Mem.get_new, if_neg (by show z ≠ m.next + 1; omega), Mem.get_new, if_neg (by show z ≠ m.next; omega), Mem.get_put, if_pos rfl]
theorem memD_g : (memD m d z ho vs hn hc v nx zs).get m.next = some (.group false) := by
  unfold memD
  rw [Mem.get_new, if_neg (by show m.next ≠ m.next + 1; omega), Mem.get_new]; exact if_pos rfl
theorem memD_n : (memD m d z ho vs hn hc v nx zs).get (m.next + 1) = some (.cells (flat zs) 9 .sole) := by
  unfold memD
  rw [Mem.get_new]; exact if_pos rfl
theorem memD_o {o : Nat} (h1 : o ≠ d) (h2 : o ≠ z) (hl : o < m.next) : (memD m d z ho vs hn hc v nx zs).get o = m.get o := by
  unfold memD
  rw [Mem.get_new, if_neg (by show o ≠ m.next + 1; omega), Mem.get_new, if_neg (by show o ≠ m.next; omega), Mem.get_put, if_neg h2, Mem.get_put, if_neg h1]
theorem memD_next : (memD m d z ho vs hn hc v nx zs).next = m.next + 2 := rfl
end

theorem flat_flat1 : ∀ (zs : List Z) (u : Value), u ∈ flat zs → flat1 u = true
  | [], u, h => by cases h
  | z :: r, u, h => by
    rcases List.mem_append.1 h with h | h
    · unfold Z.cells at h
      simp only [List.mem_cons, List.not_mem_nil, or_false] at h
      rcases h with rfl | rfl | rfl | rfl | rfl | rfl | rfl | rfl | rfl <;> rfl
    · exact flat_flat1 r u h

theorem lbOf_grow (n : Nat) : lbOf (UNK + 9 + UNK * n) = n := by
  unfold lbOf
  have : (UNK + 9 + UNK * n) / UNK = 1 + n := by
    rw [show UNK + 9 + UNK * n = 9 + UNK * (1 + n) from by rw [Nat.mul_add]; omega, Nat.add_mul_div_left _ _ UNK_pos]
    have : 9 / UNK = 0 := by decide
    omega
  omega
theorem szOf_grow (n : Nat) : szOf (UNK + 9 + UNK * n) = 9 := by
  unfold szOf
  rw [show UNK + 9 + UNK * n = 9 + UNK * (1 + n) from by rw [Nat.mul_add]; omega, Nat.add_mul_mod_self_left]
  rfl

theorem back_slice {μ1 μ' : Mu} {m1 : Mem} {K : Nat → Prop} {w w' : World} {z1 c1 o : Nat} {zs : List Z} {sp1 : List Value} {val : Value} (hr1 : Rel K w μ1 m1 w') (q1 : m1.get z1 = some (.cells (flat zs ++ sp1) 9 .sole)) (q6 : (c1 < UNK ∧ c1 * 9 = (flat zs ++ sp1).length) ∨ c1 = UNK + 9 + UNK * zs.length)
    (hμ : μ' o = μ1 z1) (h : VRel μ1 (.slice (some ⟨z1, 0, none⟩) zs.length c1) val) : VRel μ' (.slice (some ⟨o, 0, none⟩) zs.length (UNK + 9 + UNK * zs.length)) val := by
  have hne : ∀ n : Nat, UNK + 9 + UNK * n ≠ UNK := fun n => by omega
  have he : (zs.length == 0 && c1 == UNK) = false := by
    have : (c1 == UNK) = false := by
      rcases q6 with ⟨q, _⟩ | q
      · simp; omega
      · simp; rw [q]; exact hne _
    rw [this, Bool.and_false]
  obtain ⟨l, c2, hl, rfl, i1, i2⟩ := VRel.slice_inv h he
  have hob := hr1.obj z1 l hl
  rw [q1] at hob
  obtain ⟨cz, elz, fzz, e1, e2, e3, e4, e5⟩ := hob.blk
  have hesz : 9 = l.esz := hob.esz
  have hfl := flat_length zs
  have key : c2 < UNK ∧ l.base + 0 + c2 * 9 ≤ l.csz ∧ zs.length ≤ c2 := by
    rcases q6 with ⟨q, q'⟩ | q
    · rw [i1 q]
      rw [List.length_append] at q' e3
      exact ⟨q, by omega, by omega⟩
    · have hU : UNK ≤ c1 := by omega
      obtain ⟨⟨_, _, a3⟩, _, a4, a5⟩ := i2 hU
      rw [← hesz] at a4
      exact ⟨a3, a4, a5⟩
  refine .slice (hμ.trans hl) (fun hlt => absurd hlt (by omega)) fun _ => ⟨⟨by rw [szOf_grow]; exact hesz, by rw [lbOf_grow]; exact key.2.2, key.1⟩, by omega, by rw [← hesz]; exact key.2.1, key.2.2⟩


theorem ok_TD {f : FuncId} {g : List Value → Mem → Ret} {ap : Int → Int → List Z → List Int → Ch → DR} (hc0 : ∀ (K : Nat → Prop) (w0 : World), CallOk Try.prog K w0 f g)
    (hrun : ∀ (v nx : Int) (zs : List Z) (sp : List Value) (c : Nat) (hs : List Int) (hc2 : Nat) (k : Ch), (flat zs ++ sp).length = c * 9 → c < UNK → zs.length ≤ 1000 → 0 ≤ v → 0 ≤ nx → (∀ z ∈ zs, 0 ≤ z.ep) → (hs.length == 0 && hc2 == UNK) = false → hs.length ≤ 1000 →
      ∃ m1, g [ptr 0 0, .agg ⟨k.cells⟩] (mS v nx zs sp c hs hc2 .ro) = some (.bool (ap v nx zs hs k).1, m1) ∧ DirAt m1 (ap v nx zs hs k).2.1 (ap v nx zs hs k).2.2.1 (ap v nx zs hs k).2.2.2 (.slice (some ⟨2, 0, none⟩) hs.length hc2) (some (.cells (ints hs) 1 .ro))) :
    CallOk Try.prog B w0 f (TD ap) := by
  refine CallOk.writes2 hc0 fun args m u m' hT => ?_
  obtain ⟨d, z, ho, k, v, nx, c, hc, vs, hvs, zs, hs, rfl, hd, hz, hh, hce, hn, hhn, hhe, hv, hnx, hcc, hf, hi, hep, rfl, rfl⟩ := TD_spec hT
  refine ⟨Free.flat rfl, fun μ w args' hr ha => ?_⟩
  have hk := keepsD hd hz hh hce hhe hf hi
  obtain ⟨a0, a9, rfl, ha0, ha1⟩ := ha.cons_left
  obtain ⟨ld, hld, rfl⟩ := ptr_inv ha0
  have hobd := hr.obj d ld hld
  rw [hd] at hobd
  obtain ⟨cd, eld, fzd, b1, b2, b3, b4, b5⟩ := hobd.blk
  obtain ⟨s2, b6, b7⟩ := b5 rfl 2 _ rfl
  obtain ⟨lz, c', hlz, rfl, hk1, hk2⟩ := VRel.slice_inv b7 hce
  obtain ⟨s3, b8, b9⟩ := b5 rfl 3 _ rfl
  obtain ⟨lh, hc', hlh, rfl, hj1, hj2⟩ := VRel.slice_inv b9 hhe
  have hobz := hr.obj z lz hlz
  rw [hz] at hobz
  obtain ⟨cz, elz, fzz, e1, e2, e3, e4, e5⟩ := hobz.blk
  have hesz : 9 = lz.esz := hobz.esz
  have hdl : d < m.next := (hr.dom d ld hld).1
  have hzl : z < m.next := (hr.dom z lz hlz).1
  have hdz : d ≠ z := by rintro rfl; rw [hd] at hz; simp at hz
  have hdo : ho ≠ d := by rintro rfl; rw [hd] at hh; simp at hh
  have hzo : ho ≠ z := by rintro rfl; rw [hz] at hh; simp at hh
  have hfl := flat_length zs
  have hcap : c' < UNK ∧ lz.base + c' * 9 ≤ lz.csz ∧ zs.length ≤ c' := by
    rcases Nat.lt_or_ge c UNK with h | h
    · rw [hk1 h]
      rcases hcc with h' | ⟨h', h''⟩
      · omega
      · exact ⟨h, by omega, h''⟩
    · obtain ⟨⟨_, _, x3⟩, _, x4, x5⟩ := hk2 h
      rw [← hesz] at x4
      exact ⟨x3, by omega, x5⟩
  obtain ⟨hcU, hcs, hnc⟩ := hcap
  obtain ⟨sp, hspd⟩ : ∃ sp, sp = List.replicate (c' * 9 - 9 * zs.length) junk := ⟨_, rfl⟩
  have hsp : (flat zs ++ sp).length = c' * 9 := by rw [hspd]; simp only [List.length_append, List.length_replicate]; omega
  have R0 := hr.own hk
  have n0 : reMu (sg d z ho) 3 μ 0 = some ld := hld
  have n1 : reMu (sg d z ho) 3 μ 1 = some lz := hlz
  have n2 : reMu (sg d z ho) 3 μ 2 = some lh := hlh
  have R1 : Rel (ownB μ (sg d z ho) (mK v nx zs c hs hc) w) w (reMu (sg d z ho) 3 μ) ((mK v nx zs c hs hc).put 1 (.cells (flat zs ++ sp) 9 .sole)) w := by
    refine R0.swap (o := 1) (l := lz) (vs := flat zs) n1 rfl rfl fun cc el fz hb hs' => ⟨by omega, fun i u hu => ?_⟩
    have ho1 := R0.obj 1 lz n1
    rw [show (mK v nx zs c hs hc).get 1 = some (.cells (flat zs) 9 .sole) from rfl] at ho1
    obtain ⟨c3, el3, fz3, f1, f2, f3, f4, f5⟩ := ho1.blk
    rw [hb] at f1
    cases f1
    by_cases hlt : i < (flat zs).length
    · rw [List.getElem?_append_left hlt] at hu
      exact f5 rfl i u hu
    · have hi2 : i < (flat zs ++ sp).length := (List.getElem?_eq_some_iff.1 hu).1
      rw [List.getElem?_append_right (by omega), hspd] at hu
      have hj : u = junk := by
        have := List.mem_of_getElem? hu
        exact (List.mem_replicate.1 this).2
      subst hj
      exact ⟨_, Array.getElem?_eq_getElem (by omega), .junk _⟩
  have R2 : Rel (ownB μ (sg d z ho) (mK v nx zs c hs hc) w) w (reMu (sg d z ho) 3 μ) (mS v nx zs sp c' hs hc .ro) w := by
    refine R1.swap (o := 0) (l := ld) (vs := dirCells v nx 1 zs.length c (.slice (some ⟨2, 0, none⟩) hs.length hc)) (vs2 := dirCells v nx 1 zs.length c' (.slice (some ⟨2, 0, none⟩) hs.length hc)) n0 rfl rfl fun cc el fz hb hs' => ?_
    have ho1 := R1.obj 0 ld n0
    rw [show ((mK v nx zs c hs hc).put 1 (.cells (flat zs ++ sp) 9 .sole)).get 0 = some (.cells (dirCells v nx 1 zs.length c (.slice (some ⟨2, 0, none⟩) hs.length hc)) 4 .sole) from rfl] at ho1
    obtain ⟨c3, el3, fz3, f1, f2, f3, f4, f5⟩ := ho1.blk
    rw [hb] at f1
    cases f1
    rw [b1] at hb
    cases hb
    refine ⟨f3, fun i u hu => ?_⟩
    have hi4 : i = 0 ∨ i = 1 ∨ i = 2 ∨ i = 3 := by
      have : i < 4 := (List.getElem?_eq_some_iff.1 hu).1
      omega
    rcases hi4 with rfl | rfl | rfl | rfl
    · exact f5 rfl 0 u hu
    · exact f5 rfl 1 u hu
    · simp only [dirCells, List.getElem?_cons_succ, List.getElem?_cons_zero, Option.some.injEq] at hu
      subst hu
      exact ⟨_, b6, .slice n1 (fun _ => rfl) fun h => absurd h (by omega)⟩
    · exact f5 rfl 3 u hu
  obtain ⟨m1, g1, g2⟩ := hrun v nx zs sp c' hs hc k hsp hcU hn hv hnx hep hhe hhn
  refine ⟨sg d z ho, mK v nx zs c hs hc, hk, mS v nx zs sp c' hs hc .ro, [ptr 0 0, .agg ⟨k.cells⟩], m1, rfl, R2, .cons (.ptr n0) (Free.list (fun u hu => ?_) ha1), g1, ?_⟩
  · simp only [List.mem_cons, List.not_mem_nil, or_false] at hu
    subst hu
    refine Free.agg fun u hu => ?_
    unfold Ch.cells at hu
    simp only [List.mem_cons, List.not_mem_nil, or_false] at hu
    rcases hu with rfl | rfl | rfl | rfl | rfl <;> exact Free.flat rfl
  intro μ1 w' hr1 hx
  generalize (ap v nx zs hs k).2.1 = v' at g2 ⊢
  generalize (ap v nx zs hs k).2.2.1 = nx' at g2 ⊢
  generalize (ap v nx zs hs k).2.2.2 = zs' at g2 ⊢
  obtain ⟨z1, c1, sp1, q0, q1, q2, q3, q4, ⟨us, q5⟩, q6⟩ := g2
  have hnd : ∀ a : Bool, m.get d ≠ some (.group a) := fun a h => by rw [hd] at h; cases h
  have hnz : ∀ a : Bool, m.get z ≠ some (.group a) := fun a h => by rw [hz] at h; cases h
  have x0 : μ1 0 = some ld := (hx.mu 0 (show 0 < 3 by decide)).trans n0
  have x2 : μ1 2 = some lh := (hx.mu 2 (show 2 < 3 by decide)).trans n2
  obtain ⟨μ', hμ⟩ : ∃ μ' : Mu, μ' = fun o => if o < m.next then μ o else if o = m.next + 1 then μ1 z1 else none := ⟨_, rfl⟩
  have μold : ∀ o, o < m.next → μ' o = μ o := fun o h => by rw [hμ]; exact if_pos h
  have μnew : μ' (m.next + 1) = μ1 z1 := by
    rw [hμ]
    show (if m.next + 1 < m.next then _ else if m.next + 1 = m.next + 1 then _ else _) = _
    rw [if_neg (by omega), if_pos rfl]
  have μcase : ∀ o l, μ' o = some l → o < m.next ∨ o = m.next + 1 := fun o l h => by
    rw [hμ] at h
    simp only at h
    by_cases h1 : o < m.next
    · exact .inl h1
    · rw [if_neg h1] at h
      by_cases h2 : o = m.next + 1
      · exact .inr h2
      · rw [if_neg h2] at h; cases h
  have sole2 : ∀ i, i < 3 → isSole ((mK v nx zs c hs hc).get i) = true → i = 0 ∨ i = 1 := fun i hi hs' => by
    have : i = 0 ∨ i = 1 ∨ i = 2 := by omega
    rcases this with rfl | rfl | rfl
    · exact .inl rfl
    · exact .inr rfl
    · cases hs'
  have expd : ∀ (i : Nat) (u u1 val : Value), (dirCells v' nx' (m.next + 1) zs'.length (UNK + 9 + UNK * zs'.length) (.slice (some ⟨ho, 0, none⟩) hs.length hc))[i]? = some u → (dirCells v' nx' z1 zs'.length c1 (.slice (some ⟨2, 0, none⟩) hs.length hc))[i]? = some u1 → VRel μ1 u1 val → VRel μ' u val := by
    intro i u u1 val hu hu1 hval
    have hi4 : i = 0 ∨ i = 1 ∨ i = 2 ∨ i = 3 := by
      have : i < 4 := (List.getElem?_eq_some_iff.1 hu).1
      omega
    rcases hi4 with rfl | rfl | rfl | rfl
    · simp only [dirCells, List.getElem?_cons_zero, Option.some.injEq] at hu hu1
      subst hu; subst hu1; exact flat1_rel rfl hval
    · simp only [dirCells, List.getElem?_cons_succ, List.getElem?_cons_zero, Option.some.injEq] at hu hu1
      subst hu; subst hu1; exact flat1_rel rfl hval
    · simp only [dirCells, List.getElem?_cons_succ, List.getElem?_cons_zero, Option.some.injEq] at hu hu1
      subst hu; subst hu1
      exact back_slice hr1 q1 q6 μnew hval
    · simp only [dirCells, List.getElem?_cons_succ, List.getElem?_cons_zero, Option.some.injEq] at hu hu1
      subst hu; subst hu1
      obtain ⟨l2, c2, hl2, rfl, i1, i2⟩ := VRel.slice_inv hval hhe
      rw [x2] at hl2
      cases hl2
      exact .slice ((μold ho (hr.dom ho lh hlh).1).trans hlh) i1 i2
  have twoD : ∀ la lb : Loc, μ1 0 = some la → μ1 z1 = some lb → la.blk ≠ lb.blk := by
    intro la lb h1 h2 hb
    have hs := hr1.sep 0 z1 la lb (by omega) h1 h2 hb
    rw [q0, q1] at hs
    rcases hs rfl rfl with ⟨h, _⟩ | ⟨g, h, _⟩ <;> cases h
  refine ⟨μ', ⟨?_, μold, ?_, alive_memD hnd hnz, ?_, ?_, ?_⟩, ⟨?_, μold, ?_, ?_⟩⟩
  · rw [memD_next]; omega
  · intro o l h
    rw [memD_next]
    rcases μcase o l h with h | h <;> omega
  · intro i hi hs'
    rcases sole2 i hi hs' with rfl | rfl
    · exact ⟨_, 4, .sole, q0, by simp, by decide⟩
    · exact ⟨_, 9, .sole, q5, by simp, by decide⟩
  · intro o l h
    rcases μcase o l h with hlt | rfl
    · by_cases h1 : o = d
      · subst h1
        rw [μold o hlt, hld] at h
        cases h
        exact .inr (.inl ⟨.inr ⟨0, show 0 < 3 by decide, rfl, rfl⟩, 0, _, _, 4, x0, memD_d hdz hdl, q0, Nat.le_refl _, expd⟩)
      · by_cases h2 : o = z
        · subst h2
          exact .inr (.inr ⟨hlt, ⟨1, show 1 < 3 by decide, rfl, rfl⟩, vs, 9, m.next, hz, memD_z hzl, memD_g, by rw [memD_next]; omega⟩)
        · refine .inl ⟨hlt, fun i hi hs' => ?_, memD_o h1 h2 hlt⟩
          rcases sole2 i hi hs' with rfl | rfl
          · exact h1
          · exact h2
    · rw [μnew] at h
      refine .inr (.inl ⟨.inl (by omega), z1, flat zs', flat zs' ++ sp1, 9, h, memD_n, q1, by simp, fun i u u1 val hu hu1 hval => ?_⟩)
      have hlt : i < (flat zs').length := (List.getElem?_eq_some_iff.1 hu).1
      rw [List.getElem?_append_left hlt, hu] at hu1
      cases hu1
      exact flat1_rel (flat_flat1 zs' u (List.mem_of_getElem? hu)) hval
  · intro o1 o2 l1 l2 hne h1 h2 s1 s2 y1 y2
    have who : ∀ o l, μ' o = some l → isSole ((memD m d z ho vs hs.length hc v' nx' zs').get o) = true → (m.next ≤ o ∨ ∃ i, i < (mK v nx zs c hs hc).next ∧ isSole ((mK v nx zs c hs hc).get i) = true ∧ o = sg d z ho i) → (o = d ∧ μ1 0 = some l) ∨ (o = m.next + 1 ∧ μ1 z1 = some l) := by
      intro o l h hs' hy
      rcases hy with hy | ⟨i, hi, hs'', rfl⟩
      · rcases μcase o l h with h' | rfl
        · omega
        · rw [μnew] at h; exact .inr ⟨rfl, h⟩
      · rcases sole2 i hi hs'' with rfl | rfl
        · rw [show sg d z ho 0 = d from rfl, μold _ hdl] at h
          exact .inl ⟨rfl, x0.trans (hld.symm.trans h)⟩
        · rw [show sg d z ho 1 = z from rfl, memD_z hzl] at hs'
          cases hs'
    rcases who o1 l1 h1 s1 y1 with ⟨rfl, k1⟩ | ⟨rfl, k1⟩
    · rcases who o2 l2 h2 s2 y2 with ⟨rfl, k2⟩ | ⟨rfl, k2⟩
      · exact absurd rfl hne
      · exact twoD l1 l2 k1 k2
    · rcases who o2 l2 h2 s2 y2 with ⟨rfl, k2⟩ | ⟨rfl, k2⟩
      · exact (twoD l2 l1 k2 k1).symm
      · exact absurd rfl hne
  · rw [memD_next]; omega
  · intro o ho' hn' hg'
    refine memD_o (fun h => ?_) (fun h => ?_) ho'
    · rw [h, hld] at hn'; cases hn'
    · rw [h, hlz] at hn'; cases hn'
  · intro o l h
    rw [μold o (hr.dom o l h).1]
    exact h


theorem l15_ok (K : Nat → Prop) (w0 : World) : AllOf (fun x : Nat × (List Value → Mem → Ret) => CallOk Try.prog K w0 x.1 x.2) l15 := ⟨ok37 _ _, ok38 _ _, ok73 _ _, ok75 _ _, ok80 _ _, ok76 _ _, ok103 _ _, ok104 _ _, trivial⟩
theorem cl_sound (K : Nat → Prop) (w0 : World) (n f : Nat) : CallOk Try.prog K w0 f (cl n f) := calls_sound ctx_ok eqs_ok mixed funs_ok (tellL_ok (l15_ok K w0)) n f

/-- Apply -/
theorem ok15 (B : Nat → Prop) (w0 : World) : CallOk Try.prog B w0 15 (TD apP) :=
  ok_TD (g := cl 5 15) (fun K w0 => cl_sound K w0 5 15) fun v nx zs sp c hs hc2 k h1 h2 h3 h4 h5 h6 h7 h8 => apply_call (n := 0) h1 h2 h3 h4 h5 h6 h7 h8

end
end Go.Ev.Dir

namespace Go.Ev.Dir
open Go.Ev Go.Proofs
set_option linter.unusedSectionVars false
set_option linter.unusedVariables false

section
variable [Atoms]

theorem src_zones {m : Mem} {o n c : Nat} {zs : List Z} {rest : List Value} {st : Stat} (hm : m.get o = some (.cells (flat zs ++ rest) 9 st)) (hal : m.alive st = true) (hn : zs.length = n) : appendSrc ctx 9 28 28 (.slice (some ⟨o, 0, none⟩) n c) m = some (n, flat zs) := by
  subst hn
  unfold appendSrc
  rw [srcOk28]
  simp only [cond_true, lenV, Option.bind_some, srcCells]
  cases h0 : Nat.beq zs.length 0 with
  | true =>
    have := Nat.eq_of_beq_eq_true h0
    have : zs = [] := List.length_eq_zero_iff.1 this
    subst this
    rfl
  | false =>
    have hl := flat_length zs
    simp only [cond_false]
    rw [loadN_get hm hal (by simp; omega), List.drop_zero, List.take_append_of_le_length (by omega), show zs.length * 9 = (flat zs).length from by omega, List.take_length]
    rfl

theorem append_first {m : Mem} {o z c : Nat} {zs : List Z} {rest : List Value} {st : Stat} (hz : m.get z = some (.cells [] 9 .sole)) (hm : m.get o = some (.cells (flat zs ++ rest) 9 st)) (hal : m.alive st = true) (hn : zs.length ≤ 1000) (h1 : 1 ≤ zs.length) :
    aappend ctx 28 28 (.slice (some ⟨z, 0, none⟩) 0 0) (.slice (some ⟨o, 0, none⟩) zs.length c) m = some (.slice (some ⟨m.next, 0, none⟩) zs.length (UNK + 9 + UNK * zs.length), m.new (.cells (flat zs) 9 .sole)) := by
  have hb : BIG = 1073741824 := rfl
  rw [append_grow (n := 0) (c := 0) (k := zs.length) (vs := []) (src_zones hm hal rfl) (flat_all zs) hz (by simp) UNK_pos (by omega) (by omega)]
  simp

/-- zones in memory, as many as may be, and at least one -/
def zonesAt1 (m : Mem) (x : Value) : Option (List Z) := (zonesAt m x).bind fun zs => bif Nat.ble 1 zs.length then some zs else none
theorem zonesAt1_spec {m : Mem} {x : Value} {zs : List Z} (h : zonesAt1 m x = some zs) : zonesAt m x = some zs ∧ 1 ≤ zs.length := by
  unfold zonesAt1 at h
  obtain ⟨zs', h1, h2⟩ := Option.bind_eq_some_iff.1 h
  cases hb : Nat.ble 1 zs'.length with
  | false => rw [hb] at h2; cases h2
  | true =>
    rw [hb] at h2
    simp only [cond_true, Option.some.injEq] at h2
    subst h2
    exact ⟨h1, Nat.le_of_ble_eq_true hb⟩
theorem zonesAt1_flat {m : Mem} {o c : Nat} {zs : List Z} {rest : List Value} {st : Stat} (hm : m.get o = some (.cells (flat zs ++ rest) 9 st)) (hal : m.alive st = true) (hc : (zs.length == 0 && c == UNK) = false) (hn : zs.length ≤ 1000) (h1 : 1 ≤ zs.length) :
    zonesAt1 m (.slice (some ⟨o, 0, none⟩) zs.length c) = some zs := by
  unfold zonesAt1
  rw [zonesAt_flat hm hal hc hn]
  simp only [Option.bind_some, Nat.ble_eq_true_of_le h1, cond_true]

def newZ (m : Mem) (zs : List Z) : Value := .slice (some ⟨m.next, 0, none⟩) zs.length (UNK + 9 + UNK * zs.length)
def withZ (m : Mem) (zs : List Z) : Mem := m.new (.cells (flat zs) 9 .sole)
def T71 : List Value → Mem → Ret := fun args m => match args with
  | [x] => (zonesAt1 m x).bind fun zs => some (newZ m zs, withZ m zs)
  | _ => none
def T36 : List Value → Mem → Ret := fun args m => match args with
  | [.agg ⟨[.int .i64 v, .int .i64 nx, x]⟩] => (zonesAt1 m x).bind fun zs => some (.agg ⟨[.int .i64 v, .int .i64 nx, newZ m zs]⟩, withZ m zs)
  | _ => none
def T14 : List Value → Mem → Ret := fun args m => match args with
  | [.pointer (some ⟨d, 0, none⟩)] => (match m.get d with
    | some (.cells (.int .i64 v :: .int .i64 nx :: x :: [_]) e st) => bif Nat.beq e 4 && m.alive st then (zonesAt1 m x).bind fun zs => some (.agg ⟨[.int .i64 v, .int .i64 nx, newZ m zs]⟩, withZ m zs) else none
    | _ => none)
  | _ => none

theorem flat_same {zs : List Z} (i : Nat) (u u1 : Value) (hu : (flat zs)[i]? = some u) (hu1 : (flat zs)[i]? = some u1) (μ1 μ' : Mu) (val : Value) (h : VRel μ1 u1 val) : VRel μ' u val := by
  rw [hu] at hu1; cases hu1
  exact flat1_rel (flat_flat1 zs u (List.mem_of_getElem? hu)) h
theorem sl_named {μ1 : Mu} {j n : Nat} {val : Value} (h1 : 1 ≤ n) (h : VRel μ1 (.slice (some ⟨j, 0, none⟩) n (UNK + 9 + UNK * n)) val) : ∃ l, μ1 j = some l := by
  have he : (n == 0 && UNK + 9 + UNK * n == UNK) = false := by
    have : (n == 0) = false := by simp; omega
    rw [this, Bool.false_and]
  obtain ⟨l, _, hl, _⟩ := VRel.slice_inv h he
  exact ⟨l, hl⟩
theorem sl_back {K : Nat → Prop} {μ1 μ' : Mu} {m1 : Mem} {w w' : World} {j o : Nat} {zs : List Z} {val : Value} (hr1 : Rel K w μ1 m1 w') (q1 : m1.get j = some (.cells (flat zs) 9 .sole)) (hμ : μ' o = μ1 j) (h : VRel μ1 (.slice (some ⟨j, 0, none⟩) zs.length (UNK + 9 + UNK * zs.length)) val) :
    VRel μ' (.slice (some ⟨o, 0, none⟩) zs.length (UNK + 9 + UNK * zs.length)) val := back_slice hr1 (app_nil q1) (.inr rfl) hμ h
theorem agg3_inv {μ : Mu} {a b c val : Value} (h : VRel μ (.agg ⟨[a, b, c]⟩) val) : ∃ a' b' c', val = .agg ⟨[a', b', c']⟩ ∧ VRel μ a a' ∧ VRel μ b b' ∧ VRel μ c c' := by
  cases h with
  | agg h1 h2 =>
    rename_i bs
    have hl : LRel μ [a, b, c] bs := ⟨h1, h2⟩
    obtain ⟨a', r1, rfl, k1, l1⟩ := hl.cons_left
    obtain ⟨b', r2, rfl, k2, l2⟩ := l1.cons_left
    obtain ⟨c', r3, rfl, k3, l3⟩ := l2.cons_left
    have := l3.nil_left
    subst this
    exact ⟨a', b', c', rfl, k1, k2, k3⟩

theorem reads_Z {m : Mem} {o : Nat} {vs : List Value} {st : Stat} {zs : List Z} (ho : m.get o = some (.cells vs 9 st)) (hal : m.alive st = true) (hf : vs.take (9 * zs.length) = flat zs) : Reads (fun _ => o) m (mZ zs) := by
  intro i hi
  have : i = 0 := by have : i < 1 := hi; omega
  subst this
  exact ⟨_, vs, 9, st, rfl, ho, hal, by rw [flat_length, hf]; exact LRen.zones zs⟩

noncomputable def b71 : Code := bodyOf Try.f71
theorem b71_body : Try.f71.body = some b71 := by kernel_rfl
noncomputable def r71_0 : Array Oper := rOps (sA (b71))
noncomputable def r71_1 : Array Oper := rOps (sA (sA (sB (b71))))
noncomputable def r71_2 : Array Oper := rOps (sA (ifA (sB (sA (sB (b71))))))
noncomputable def r71_3 : Array Oper := rOps (sA (sB (sB (b71))))
theorem b71_eq : b71 = .seq (.region 0 r71_0 false) (.seq (.seq (.region 1 r71_1 false) (.cond (.tmp 4) (.seq (.region 2 r71_2 false) (.ret)) (.skip))) (.seq (.region 3 r71_3 false) (.ret))) := by kernel_rfl
theorem ret71 : Try.f71.results.toList = [.tmp 2] := by kernel_rfl
theorem hr71_3_0_2 : r71_3.toList.drop 2 = (r71_3.toList.drop 2).headD default :: r71_3.toList.drop 3 := by kernel_rfl
set_option maxRecDepth 100000 in
set_option maxHeartbeats 0 in
theorem clone_run {zs : List Z} {c : Nat} (hn : zs.length ≤ 1000) (h1 : 1 ≤ zs.length) : RunP ctx (callL []) 71 b71 (initSlots [.slice (some ⟨0, 0, none⟩) zs.length c]) (mZ zs) (fun e s m => e = .ret ∧ s.get 2 = .slice (some ⟨2, 0, none⟩) zs.length (UNK + 9 + UNK * zs.length) ∧ m.get 2 = some (.cells (flat zs) 9 .sole)) := by
  rw [b71_eq]
  refine RunP.seq ?_
  refine RunP.region ?_
  refine OpsP.rest (by kernel_rfl) ?_
  refine RunP.seq ?_
  refine RunP.seq ?_
  refine RunP.region ?_
  refine OpsP.rest (by kernel_rfl) ?_
  refine RunP.cond (t := false) (by kernel_rfl) (fun h => by cases h) fun _ => ?_
  refine RunP.skip ?_
  refine RunP.seq ?_
  refine RunP.region ?_
  refine OpsP.take 2 (by kernel_rfl) ?_
  refine OpsP.stepAt hr71_3_0_2 (step_append (x := .tmp 5) (y := .tmp 6) (st := 28) (xt := 28) (by kernel_rfl) (by kernel_rfl) (u := .slice (some ⟨1, 0, none⟩) 0 0) (v := .slice (some ⟨0, 0, none⟩) zs.length c) (by kernel_rfl) (by kernel_rfl) (append_first (rest := []) (st := .ro) (by kernel_rfl) (app_nil (by kernel_rfl)) rfl hn h1)) ?_
  refine OpsP.rest (by kernel_rfl) ?_
  refine RunP.ret ?_
  exact ⟨rfl, by kernel_rfl, by kernel_rfl⟩

theorem ok71 (B : Nat → Prop) (w0 : World) : CallOk Try.prog B w0 71 T71 := by
  refine CallOk.makes (g := callN ctx (tellL []) 7 71) (fun K w0 => calls_sound ctx_ok eqs_ok mixed funs_ok (tellL_ok (l := []) trivial) 7 71) fun args m v m' h => ?_
  unfold T71 at h
  split at h
  · rename_i x
    obtain ⟨zs, hz, h2⟩ := Option.bind_eq_some_iff.1 h
    simp only [Option.some.injEq, Prod.mk.injEq] at h2
    obtain ⟨rfl, rfl⟩ := h2
    obtain ⟨hz, h1⟩ := zonesAt1_spec hz
    obtain ⟨o, c, vs, st2, rfl, ho, hal, hcc, hn, hfl⟩ := zonesAt_spec hz
    obtain ⟨u, m1, k1, k2, k3⟩ := runFn_of (C := ctx) (call := callL []) (fid := 71) (fn := Try.f71) (args := [.slice (some ⟨0, 0, none⟩) zs.length c]) (m := mZ zs) (R := fun u m1 => u = .slice (some ⟨2, 0, none⟩) zs.length (UNK + 9 + UNK * zs.length) ∧ m1.get 2 = some (.cells (flat zs) 9 .sole)) b71_body (by kernel_rfl)
      (RunP.mono (clone_run (c := c) hn h1) fun e s m1 ⟨a1, a2, a3⟩ => ⟨fun id q => (by rw [a1] at q; cases q), [s.get 2], by rw [ret71]; rfl, a2, a3⟩)
    subst k2
    refine ⟨fun _ => o, mZ zs, [.slice (some ⟨0, 0, none⟩) zs.length c], .slice (some ⟨2, 0, none⟩) zs.length (UNK + 9 + UNK * zs.length), m1, 2, flat zs, flat zs, 9, reads_Z ho hal hfl, .cons (VRen.slice (show 0 < 1 by decide) rfl hcc) .nil, ?_, k3, rfl, Nat.le_refl _, flat_same, fun μ1 val h => sl_named h1 h, fun K μ1 μ' w w' val hr1 hμ h => sl_back hr1 k3 hμ h⟩
    rw [callN_fun (fn := Try.f71) rfl (by kernel_rfl)]
    exact k1
  · cases h

theorem call71 {l : List (Nat × (List Value → Mem → Ret))} {m : Mem} {o c : Nat} {zs : List Z} {rest : List Value} {st : Stat} (hm : m.get o = some (.cells (flat zs ++ rest) 9 st)) (hal : m.alive st = true) (hc : (zs.length == 0 && c == UNK) = false) (hn : zs.length ≤ 1000) (h1 : 1 ≤ zs.length) :
    callL ((71, T71) :: l) 71 [.slice (some ⟨o, 0, none⟩) zs.length c] m = some (newZ m zs, withZ m zs) := by
  unfold callL
  rw [callN_told (g := T71) rfl]
  unfold T71
  simp only [zonesAt1_flat hm hal hc hn h1, Option.bind_some]

noncomputable def b36 : Code := bodyOf Try.f36
theorem b36_body : Try.f36.body = some b36 := by kernel_rfl
noncomputable def r36_0 : Array Oper := rOps (sA (b36))
noncomputable def r36_1 : Array Oper := rOps (sA (sB (b36)))
noncomputable def r36_2 : Array Oper := rOps (sA (sB (sB (b36))))
theorem b36_eq : b36 = .seq (.region 0 r36_0 false) (.seq (.region 1 r36_1 false) (.seq (.region 2 r36_2 false) (.ret))) := by kernel_rfl
theorem ret36 : Try.f36.results.toList = [.cell 2 30] := by kernel_rfl
theorem hr36_1_0_2 : r36_1.toList.drop 2 = (r36_1.toList.drop 2).headD default :: r36_1.toList.drop 3 := by kernel_rfl
set_option maxRecDepth 100000 in
set_option maxHeartbeats 0 in
theorem own_run {v nx : Int} {zs : List Z} {c : Nat} (hcc : (zs.length == 0 && c == UNK) = false) (hn : zs.length ≤ 1000) (h1 : 1 ≤ zs.length) : RunP ctx (callL [(71, T71)]) 36 b36 (initSlots [.agg ⟨[.int .i64 v, .int .i64 nx, .slice (some ⟨0, 0, none⟩) zs.length c]⟩]) (mZ zs) (fun e s m => e = .ret ∧ resV ctx s m Try.f36.results.toList = some [.agg ⟨[.int .i64 v, .int .i64 nx, .slice (some ⟨3, 0, none⟩) zs.length (UNK + 9 + UNK * zs.length)]⟩] ∧ m.get 3 = some (.cells (flat zs) 9 .sole)) := by
  rw [b36_eq]
  refine RunP.seq ?_
  refine RunP.region ?_
  refine OpsP.rest (by kernel_rfl) ?_
  refine RunP.seq ?_
  refine RunP.region ?_
  refine OpsP.take 2 (by kernel_rfl) ?_
  refine OpsP.stepAt hr36_1_0_2 (step_call (g := 71) (f := .func 71) (args := #[.tmp 4]) (ats := #[28]) (l := [.slice (some ⟨0, 0, none⟩) zs.length c]) (by kernel_rfl) (by kernel_rfl) (by kernel_rfl) (by kernel_rfl) (call71 (zs := zs) (c := c) (o := 0) (rest := []) (st := .ro) (app_nil (by kernel_rfl)) rfl hcc hn h1)) ?_
  refine OpsP.rest (by kernel_rfl) ?_
  refine RunP.seq ?_
  refine RunP.region ?_
  refine OpsP.rest (by kernel_rfl) ?_
  refine RunP.ret ?_
  exact ⟨rfl, by kernel_rfl, by kernel_rfl⟩

theorem ok36 (B : Nat → Prop) (w0 : World) : CallOk Try.prog B w0 36 T36 := by
  refine CallOk.makes (g := callN ctx (tellL [(71, T71)]) 7 36) (fun K w0 => calls_sound ctx_ok eqs_ok mixed funs_ok (tellL_ok (l := [(71, T71)]) ⟨ok71 _ _, trivial⟩) 7 36) fun args m v m' h => ?_
  unfold T36 at h
  split at h
  · rename_i v nx x
    obtain ⟨zs, hz, h2⟩ := Option.bind_eq_some_iff.1 h
    simp only [Option.some.injEq, Prod.mk.injEq] at h2
    obtain ⟨rfl, rfl⟩ := h2
    obtain ⟨hz, h1⟩ := zonesAt1_spec hz
    obtain ⟨o, c, vs, st2, rfl, ho, hal, hcc, hn, hfl⟩ := zonesAt_spec hz
    obtain ⟨u, m1, k1, k2, k3⟩ := runFn_of (C := ctx) (call := callL [(71, T71)]) (fid := 36) (fn := Try.f36) (args := [.agg ⟨[.int .i64 v, .int .i64 nx, .slice (some ⟨0, 0, none⟩) zs.length c]⟩]) (m := mZ zs) (R := fun u m1 => u = .agg ⟨[.int .i64 v, .int .i64 nx, .slice (some ⟨3, 0, none⟩) zs.length (UNK + 9 + UNK * zs.length)]⟩ ∧ m1.get 3 = some (.cells (flat zs) 9 .sole)) b36_body (by kernel_rfl)
      (RunP.mono (own_run (v := v) (nx := nx) (c := c) hcc hn h1) fun e s m1 ⟨a1, a2, a3⟩ => ⟨fun id q => (by rw [a1] at q; cases q), _, a2, rfl, a3⟩)
    subst k2
    refine ⟨fun _ => o, mZ zs, [.agg ⟨[.int .i64 v, .int .i64 nx, .slice (some ⟨0, 0, none⟩) zs.length c]⟩], .agg ⟨[.int .i64 v, .int .i64 nx, .slice (some ⟨3, 0, none⟩) zs.length (UNK + 9 + UNK * zs.length)]⟩, m1, 3, flat zs, flat zs, 9, reads_Z ho hal hfl, .cons (VRen.agg (.cons (VRen.int _ _) (.cons (VRen.int _ _) (.cons (VRen.slice (show 0 < 1 by decide) rfl hcc) .nil)))) .nil, ?_, k3, rfl, Nat.le_refl _, flat_same, fun μ1 val h => ?_, fun K μ1 μ' w w' val hr1 hμ h => ?_⟩
    · rw [callN_fun (fn := Try.f36) rfl (by kernel_rfl)]
      exact k1
    · obtain ⟨a', b', c', rfl, _, _, j3⟩ := agg3_inv h
      exact sl_named h1 j3
    · obtain ⟨a', b', c', rfl, j1, j2, j3⟩ := agg3_inv h
      exact .agg' (.cons (flat1_rel rfl j1) (.cons (flat1_rel rfl j2) (.cons (sl_back hr1 k3 hμ j3) .nil)))
  · cases h

theorem call36 {l : List (Nat × (List Value → Mem → Ret))} {m : Mem} {v nx : Int} {o c : Nat} {zs : List Z} {rest : List Value} {st : Stat} (hm : m.get o = some (.cells (flat zs ++ rest) 9 st)) (hal : m.alive st = true) (hc : (zs.length == 0 && c == UNK) = false) (hn : zs.length ≤ 1000) (h1 : 1 ≤ zs.length) :
    callL ((36, T36) :: l) 36 [.agg ⟨[.int .i64 v, .int .i64 nx, .slice (some ⟨o, 0, none⟩) zs.length c]⟩] m = some (.agg ⟨[.int .i64 v, .int .i64 nx, newZ m zs]⟩, withZ m zs) := by
  unfold callL
  rw [callN_told (g := T36) rfl]
  unfold T36
  simp only [zonesAt1_flat hm hal hc hn h1, Option.bind_some]

noncomputable def b14 : Code := bodyOf Try.f14
theorem b14_body : Try.f14.body = some b14 := by kernel_rfl
noncomputable def r14_0 : Array Oper := rOps (sA (b14))
noncomputable def r14_1 : Array Oper := rOps (sA (sA (sB (b14))))
noncomputable def r14_2 : Array Oper := rOps (sA (ifA (sB (sA (sB (b14))))))
noncomputable def r14_3 : Array Oper := rOps (sA (sB (sB (b14))))
theorem b14_eq : b14 = .seq (.region 0 r14_0 false) (.seq (.seq (.region 1 r14_1 false) (.cond (.tmp 4) (.seq (.region 2 r14_2 false) (.ret)) (.skip))) (.seq (.region 3 r14_3 false) (.ret))) := by kernel_rfl
theorem ret14 : Try.f14.results.toList = [.cell 2 30] := by kernel_rfl
theorem hr14_3_0_4 : r14_3.toList.drop 4 = (r14_3.toList.drop 4).headD default :: r14_3.toList.drop 5 := by kernel_rfl
set_option maxRecDepth 100000 in
set_option maxHeartbeats 0 in
theorem map_run {v nx : Int} {zs : List Z} {c : Nat} (hcc : (zs.length == 0 && c == UNK) = false) (hn : zs.length ≤ 1000) (h1 : 1 ≤ zs.length) : RunP ctx (callL [(36, T36)]) 14 b14 (initSlots [ptr 0 0]) (mD v nx zs c) (fun e s m => e = .ret ∧ resV ctx s m Try.f14.results.toList = some [.agg ⟨[.int .i64 v, .int .i64 nx, .slice (some ⟨3, 0, none⟩) zs.length (UNK + 9 + UNK * zs.length)]⟩] ∧ m.get 3 = some (.cells (flat zs) 9 .sole)) := by
  rw [b14_eq]
  refine RunP.seq ?_
  refine RunP.region ?_
  refine OpsP.rest (by kernel_rfl) ?_
  refine RunP.seq ?_
  refine RunP.seq ?_
  refine RunP.region ?_
  refine OpsP.rest (by kernel_rfl) ?_
  refine RunP.cond (t := false) (by kernel_rfl) (fun h => by cases h) fun _ => ?_
  refine RunP.skip ?_
  refine RunP.seq ?_
  refine RunP.region ?_
  refine OpsP.take 4 (by kernel_rfl) ?_
  refine OpsP.stepAt hr14_3_0_4 (step_call (g := 36) (f := .func 36) (args := #[.tmp 9]) (ats := #[30]) (l := [.agg ⟨[.int .i64 (v), .int .i64 (nx), .slice (some ⟨1, 0, none⟩) zs.length c]⟩]) (by kernel_rfl) (by kernel_rfl) (by kernel_rfl) (by kernel_rfl) (call36 (zs := zs) (c := c) (o := 1) (rest := []) (st := .ro) (app_nil (by kernel_rfl)) rfl hcc hn h1)) ?_
  refine OpsP.rest (by kernel_rfl) ?_
  refine RunP.ret ?_
  exact ⟨rfl, by kernel_rfl, by kernel_rfl⟩

theorem ok14 (B : Nat → Prop) (w0 : World) : CallOk Try.prog B w0 14 T14 := by
  refine CallOk.makes (g := callN ctx (tellL [(36, T36)]) 7 14) (fun K w0 => calls_sound ctx_ok eqs_ok mixed funs_ok (tellL_ok (l := [(36, T36)]) ⟨ok36 _ _, trivial⟩) 7 14) fun args m v m' h => ?_
  unfold T14 at h
  split at h
  · rename_i d
    split at h
    · rename_i v nx x hosts e st hd
      cases hg : (Nat.beq e 4 && m.alive st) with
      | false => rw [hg] at h; cases h
      | true =>
        rw [hg] at h
        simp only [cond_true] at h
        simp only [Bool.and_eq_true] at hg
        have he := Nat.eq_of_beq_eq_true hg.1
        subst he
        obtain ⟨zs, hz, h2⟩ := Option.bind_eq_some_iff.1 h
        simp only [Option.some.injEq, Prod.mk.injEq] at h2
        obtain ⟨rfl, rfl⟩ := h2
        obtain ⟨hz, h1⟩ := zonesAt1_spec hz
        obtain ⟨o, c, vs, st2, rfl, ho, hal, hcc, hn, hfl⟩ := zonesAt_spec hz
        obtain ⟨u, m1, k1, k2, k3⟩ := runFn_of (C := ctx) (call := callL [(36, T36)]) (fid := 14) (fn := Try.f14) (args := [ptr 0 0]) (m := mD v nx zs c) (R := fun u m1 => u = .agg ⟨[.int .i64 v, .int .i64 nx, .slice (some ⟨3, 0, none⟩) zs.length (UNK + 9 + UNK * zs.length)]⟩ ∧ m1.get 3 = some (.cells (flat zs) 9 .sole)) b14_body (by kernel_rfl)
          (RunP.mono (map_run (v := v) (nx := nx) (c := c) hcc hn h1) fun e s m1 ⟨a1, a2, a3⟩ => ⟨fun id q => (by rw [a1] at q; cases q), _, a2, rfl, a3⟩)
        subst k2
        refine ⟨fun i => if i = 0 then d else o, mD v nx zs c, [ptr 0 0], .agg ⟨[.int .i64 v, .int .i64 nx, .slice (some ⟨3, 0, none⟩) zs.length (UNK + 9 + UNK * zs.length)]⟩, m1, 3, flat zs, flat zs, 9, fun i hi => ?_, .cons (VRen.ptr (show 0 < 2 by decide) rfl) .nil, ?_, k3, rfl, Nat.le_refl _, flat_same, fun μ1 val h => ?_, fun K μ1 μ' w w' val hr1 hμ h => ?_⟩
        · have : i = 0 ∨ i = 1 := by have : i < 2 := hi; omega
          rcases this with rfl | rfl
          · exact ⟨_, _, 4, st, rfl, hd, hg.2, .cons (VRen.int _ _) (.cons (VRen.int _ _) (.cons (VRen.slice (show 1 < 2 by decide) rfl hcc) (.cons (VRen.junk _) .nil)))⟩
          · exact ⟨_, vs, 9, st2, rfl, ho, hal, by rw [flat_length, hfl]; exact LRen.zones zs⟩
        · rw [callN_fun (fn := Try.f14) rfl (by kernel_rfl)]
          exact k1
        · obtain ⟨a', b', c', rfl, _, _, j3⟩ := agg3_inv h
          exact sl_named h1 j3
        · obtain ⟨a', b', c', rfl, j1, j2, j3⟩ := agg3_inv h
          exact .agg' (.cons (flat1_rel rfl j1) (.cons (flat1_rel rfl j2) (.cons (sl_back hr1 k3 hμ j3) .nil)))
    · cases h
  · cases h

end
end Go.Ev.Dir

namespace Go.Ev.Dir
open Go.Ev Go.Proofs
set_option linter.unusedSectionVars false
set_option linter.unusedVariables false
variable [Atoms]

def RE (x y : Z) : Prop := x.id ≠ y.id ∧ (x.pend = 1 → y.id ≠ x.new) ∧ (y.pend = 1 → x.id ≠ y.new) ∧ (x.pend = 1 → y.pend = 1 → x.new ≠ y.new)
def SE (nx : Int) (x : Z) : Prop := x.id < nx ∧ 0 ≤ x.ep ∧ (x.pend = 1 → x.new < nx ∧ x.id ≠ x.new)
theorem RE.symm {x y : Z} (h : RE x y) : RE y x := ⟨fun e => h.1 e.symm, h.2.2.1, h.2.1, fun a b e => h.2.2.2 b a e.symm⟩
structure InvE (nx : Int) (zs : List Z) : Prop where
  nn : 0 ≤ nx
  ge : 1 ≤ zs.length
  le : zs.length ≤ 16
  one : ∀ x ∈ zs, SE nx x
  two : zs.Pairwise RE

def goodE (x y : Z) : Prop := x.id = y.id → x.ep ≤ y.ep ∧ ((y.own = x.own ∧ y.lo = x.lo ∧ y.hi = x.hi) ∨ x.ep < y.ep)
theorem goodE.refl (x : Z) : goodE x x := fun _ => ⟨Int.le_refl _, .inl ⟨rfl, rfl, rfl⟩⟩

theorem pair_eq : ∀ {l : List Z}, l.Pairwise RE → ∀ x ∈ l, ∀ y ∈ l, x.id = y.id → x = y
  | [], _, x, hx, _, _, _ => by cases hx
  | a :: r, h, x, hx, y, hy, e => by
    obtain ⟨h1, h2⟩ := List.pairwise_cons.1 h
    rcases List.mem_cons.1 hx with rfl | hx'
    · rcases List.mem_cons.1 hy with rfl | hy'
      · rfl
      · exact absurd e (h1 y hy').1
    · rcases List.mem_cons.1 hy with rfl | hy'
      · exact absurd e.symm (h1 x hx').1
      · exact pair_eq h2 x hx' y hy' e

theorem good_of {nx : Int} {l l' : List Z} (h : InvE nx l) (k : ∀ y ∈ l', (∃ x ∈ l, x.id = y.id ∧ goodE x y) ∨ ∀ x ∈ l, x.id ≠ y.id) : ∀ x ∈ l, ∀ y ∈ l', goodE x y := by
  intro x hx y hy e
  rcases k y hy with ⟨x', hx', e', hg⟩ | hn
  · have : x = x' := pair_eq h.two x hx x' hx' (e.trans e'.symm)
    subst this
    exact hg e
  · exact absurd e (hn x hx)

theorem inv_mid {nx nx' : Int} {A C M M' : List Z} (h : InvE nx (A ++ M ++ C)) (hn : nx ≤ nx') (h1 : ∀ y ∈ M', SE nx' y) (h2 : M'.Pairwise RE) (h3 : ∀ y ∈ M', ∀ x, SE nx x → (∀ z ∈ M, RE x z) → RE x y) (hge : 1 ≤ A.length + M'.length + C.length) (hle : A.length + M'.length + C.length ≤ 16) : InvE nx' (A ++ M' ++ C) := by
  obtain ⟨nn, _, _, o, t⟩ := h
  rw [List.pairwise_append, List.pairwise_append] at t
  obtain ⟨⟨tA, tM, tAM⟩, tC, tX⟩ := t
  have oA : ∀ x ∈ A, SE nx x := fun x hx => o x (by simp [hx])
  have oC : ∀ x ∈ C, SE nx x := fun x hx => o x (by simp [hx])
  have up : ∀ x, SE nx x → SE nx' x := fun x hx => ⟨by have := hx.1; omega, hx.2.1, fun hp => ⟨by have := (hx.2.2 hp).1; omega, (hx.2.2 hp).2⟩⟩
  refine ⟨by omega, by simp only [List.length_append]; omega, by simp only [List.length_append]; omega, fun x hx => ?_, ?_⟩
  · simp only [List.mem_append] at hx
    rcases hx with (hx | hx) | hx
    · exact up x (oA x hx)
    · exact h1 x hx
    · exact up x (oC x hx)
  · rw [List.pairwise_append, List.pairwise_append]
    refine ⟨⟨tA, h2, fun x hx y hy => h3 y hy x (oA x hx) fun z hz => tAM x hx z hz⟩, tC, fun x hx y hy => ?_⟩
    rcases List.mem_append.1 hx with hx | hx
    · exact tX x (List.mem_append_left _ hx) y hy
    · exact (h3 x hx y (oC y hy) fun z hz => (tX z (List.mem_append_right _ hz) y hy).symm).symm

theorem split_at {l : List Z} {i : Nat} {z : Z} (h : l[i]? = some z) : l = l.take i ++ [z] ++ l.drop (i + 1) := by
  have hd := drop_at h
  rw [List.append_assoc]
  show l = l.take i ++ (z :: l.drop (i + 1))
  rw [← hd, List.take_append_drop]
theorem set_split {l : List Z} {i : Nat} {z a : Z} (h : l[i]? = some z) : l.set i a = l.take i ++ [a] ++ l.drop (i + 1) := by
  have hi : i < l.length := (List.getElem?_eq_some_iff.1 h).1
  rw [List.set_eq_take_append_cons_drop, if_pos hi, List.append_assoc]
  rfl

/-- one zone is changed -/
theorem inv_set {nx nx' : Int} {l : List Z} {i : Nat} {z a : Z} (h : InvE nx l) (hz : l[i]? = some z) (hn : nx ≤ nx') (h1 : SE nx' a) (hid : a.id = z.id) (hg : goodE z a) (h3 : ∀ x, SE nx x → RE x z → RE x a) : InvE nx' (l.set i a) ∧ ∀ x ∈ l, ∀ y ∈ l.set i a, goodE x y := by
  have hi : i < l.length := (List.getElem?_eq_some_iff.1 hz).1
  have hl1 : (l.take i).length = i := by simp; omega
  have hl2 : (l.drop (i + 1)).length = l.length - (i + 1) := by simp
  have hge := h.ge
  have hle := h.le
  have h' : InvE nx (l.take i ++ [z] ++ l.drop (i + 1)) := split_at hz ▸ h
  refine ⟨?_, good_of h fun y hy => ?_⟩
  · rw [set_split hz]
    exact inv_mid h' hn (fun y hy => by simp at hy; subst hy; exact h1) (List.pairwise_singleton _ _) (fun y hy x hx hr => by simp at hy; subst hy; exact h3 x hx (hr z (by simp))) (by rw [hl1, hl2]; simp; omega) (by rw [hl1, hl2]; simp; omega)
  · rcases List.mem_or_eq_of_mem_set hy with hy | rfl
    · exact .inl ⟨y, hy, rfl, goodE.refl y⟩
    · exact .inl ⟨z, List.mem_of_getElem? hz, hid.symm, hg⟩

theorem split_ok {nx : Int} {zs : List Z} {i : Nat} {z : Z} {k : Ch} {x : Int × List Z} (h : InvE nx zs) (hz : zs[i]? = some z) (hM : splitM nx zs i z k = some x) : InvE x.1 x.2 ∧ ∀ a ∈ zs, ∀ b ∈ x.2, goodE a b := by
  unfold splitM at hM
  cases hg : (decide (z.pend = 0) && (cutB z.lo z.hi k.key && (!decide (16 ≤ ((zs.length : Nat) : Int) + ((cnt zs 1 : Nat) : Int)) && !decide (1099511627776 ≤ nx)))) with
  | false => rw [hg] at hM; cases hM
  | true =>
    rw [hg] at hM
    simp only [cond_true, Option.some.injEq] at hM
    subst hM
    have hp : z.pend = 0 := by
      simp only [Bool.and_eq_true, decide_eq_true_eq] at hg
      exact hg.1
    have hs := h.one z (List.mem_of_getElem? hz)
    refine inv_set h hz (by omega) ⟨by have := hs.1; show z.id < nx + 1; omega, hs.2.1, fun _ => ⟨by show nx < nx + 1; omega, by have := hs.1; show z.id ≠ nx; omega⟩⟩ rfl (fun _ => ⟨Int.le_refl _, .inl ⟨rfl, rfl, rfl⟩⟩) fun y hy hr => ⟨hr.1, hr.2.1, fun _ => by have := hy.1; show y.id ≠ nx; omega, fun hp2 _ => by have := (hy.2.2 hp2).1; show y.new ≠ nx; omega⟩

theorem move_ok {nx : Int} {zs : List Z} {i : Nat} {z : Z} {k : Ch} {hs : List Int} {x : Int × List Z} (h : InvE nx zs) (hz : zs[i]? = some z) (hM : moveM nx zs i z k hs = some x) : InvE x.1 x.2 ∧ ∀ a ∈ zs, ∀ b ∈ x.2, goodE a b := by
  unfold moveM at hM
  cases hg : (decide (z.pend = 0) && (decide (0 ≤ findI hs k.to 0) && (!decide (k.to = z.own) && !decide (2 ≤ ((cnt zs 3 : Nat) : Int))))) with
  | false => rw [hg] at hM; cases hM
  | true =>
    rw [hg] at hM
    simp only [cond_true, Option.some.injEq] at hM
    subst hM
    have hs := h.one z (List.mem_of_getElem? hz)
    refine inv_set h hz (Int.le_refl _) ⟨hs.1, hs.2.1, fun hp => by have hp : (3 : Int) = 1 := hp; omega⟩ rfl (fun _ => ⟨Int.le_refl _, .inl ⟨rfl, rfl, rfl⟩⟩) fun y hy hr => ⟨hr.1, hr.2.1, fun hp => by have hp : (3 : Int) = 1 := hp; omega, fun _ hp => by have hp : (3 : Int) = 1 := hp; omega⟩

/-- a zone of a new epoch, nothing under way -/
theorem ended_ok {nx : Int} {zs : List Z} {i : Nat} {z a : Z} (h : InvE nx zs) (hz : zs[i]? = some z) (hid : a.id = z.id) (hep : z.ep < a.ep) (hp : a.pend = 0) : InvE nx (zs.set i a) ∧ ∀ x ∈ zs, ∀ y ∈ zs.set i a, goodE x y := by
  have hs := h.one z (List.mem_of_getElem? hz)
  refine inv_set h hz (Int.le_refl _) ⟨by rw [hid]; exact hs.1, by have := hs.2.1; omega, fun h1 => by omega⟩ hid (fun _ => ⟨by omega, .inr hep⟩) fun y hy hr => ⟨by rw [hid]; exact hr.1, by rw [hid]; exact hr.2.1, fun h1 => by omega, fun _ h1 => by omega⟩

theorem abort_ok {nx : Int} {zs : List Z} {i : Nat} {z : Z} {k : Ch} {x : Int × List Z} (h : InvE nx zs) (hz : zs[i]? = some z) (hM : abortM nx zs i z k = some x) : InvE x.1 x.2 ∧ ∀ a ∈ zs, ∀ b ∈ x.2, goodE a b := by
  unfold abortM at hM
  cases hg : (decide (z.pend = 3) && (decide (z.ep = k.ep) && !decide (1099511627776 ≤ z.ep))) with
  | false => rw [hg] at hM; cases hM
  | true =>
    rw [hg] at hM
    simp only [cond_true, Option.some.injEq] at hM
    subst hM
    exact ended_ok h hz rfl (by show z.ep < z.ep + 1; omega) rfl

theorem merge_ok {nx : Int} {zs : List Z} {i : Nat} {z : Z} {x : Int × List Z} (h : InvE nx zs) (hz : zs[i]? = some z) (hM : mergeM nx zs i z = some x) : InvE x.1 x.2 ∧ ∀ a ∈ zs, ∀ b ∈ x.2, goodE a b := by
  unfold mergeM at hM
  cases hy : zs[i + 1]? with
  | none => rw [hy] at hM; cases hM
  | some y =>
    rw [hy] at hM
    simp only at hM
    cases hg : (!decide (((zs.length : Nat) : Int) ≤ ((i + 1 : Nat) : Int)) && (decide (z.pend = 0) && (decide (y.pend = 0) && decide (z.own = y.own)))) with
    | false => rw [hg] at hM; cases hM
    | true =>
      rw [hg] at hM
      simp only [cond_true, Option.some.injEq] at hM
      subst hM
      have hs := h.one z (List.mem_of_getElem? hz)
      obtain ⟨k1, g1⟩ := inv_set (a := { z with pend := 2, new := y.id }) h hz (Int.le_refl _) ⟨hs.1, hs.2.1, fun hp => by have hp : (2 : Int) = 1 := hp; omega⟩ rfl (fun _ => ⟨Int.le_refl _, .inl ⟨rfl, rfl, rfl⟩⟩) fun w hw hr => ⟨hr.1, hr.2.1, fun hp => by have hp : (2 : Int) = 1 := hp; omega, fun _ hp => by have hp : (2 : Int) = 1 := hp; omega⟩
      have hy2 : (zs.set i { z with pend := 2, new := y.id })[i + 1]? = some y := set_ne hy (by omega)
      have hs2 := k1.one y (List.mem_of_getElem? hy2)
      obtain ⟨k2, g2⟩ := inv_set (a := { y with pend := 2, new := z.id }) k1 hy2 (Int.le_refl _) ⟨hs2.1, hs2.2.1, fun hp => by have hp : (2 : Int) = 1 := hp; omega⟩ rfl (fun _ => ⟨Int.le_refl _, .inl ⟨rfl, rfl, rfl⟩⟩) fun w hw hr => ⟨hr.1, hr.2.1, fun hp => by have hp : (2 : Int) = 1 := hp; omega, fun _ hp => by have hp : (2 : Int) = 1 := hp; omega⟩
      refine ⟨k2, good_of h fun b hb => ?_⟩
      rcases List.mem_or_eq_of_mem_set hb with hb | rfl
      · rcases List.mem_or_eq_of_mem_set hb with hb | rfl
        · exact .inl ⟨b, hb, rfl, goodE.refl b⟩
        · exact .inl ⟨z, List.mem_of_getElem? hz, rfl, fun _ => ⟨Int.le_refl _, .inl ⟨rfl, rfl, rfl⟩⟩⟩
      · exact .inl ⟨y, List.mem_of_getElem? hy, rfl, fun _ => ⟨Int.le_refl _, .inl ⟨rfl, rfl, rfl⟩⟩⟩

theorem insL_eq {zs : List Z} {i : Nat} {z a b : Z} (hz : zs[i]? = some z) : insL (zs.set i a) i b = zs.take i ++ [a, b] ++ zs.drop (i + 1) := by
  have hi : i < zs.length := (List.getElem?_eq_some_iff.1 hz).1
  have hl : (zs.take i ++ [a]).length = i + 1 := by simp; omega
  unfold insL
  rw [set_split hz, List.take_append_of_le_length (by omega), List.take_of_length_le (by omega), List.drop_append_of_le_length (by omega), List.drop_of_length_le (by omega)]
  simp
theorem delL_eq {zs : List Z} {i : Nat} {z a : Z} (hz : zs[i]? = some z) : delL (zs.set i a) i = zs.take i ++ [a] ++ zs.drop (i + 1 + 1) := by
  have hi : i < zs.length := (List.getElem?_eq_some_iff.1 hz).1
  have hl : (zs.take i ++ [a]).length = i + 1 := by simp; omega
  unfold delL
  rw [set_split hz, List.take_append_of_le_length (by omega), List.take_of_length_le (by omega)]
  congr 1
  rw [List.drop_append, hl, List.drop_eq_nil_of_le (by omega), List.nil_append, show i + 1 + 1 - (i + 1) = 1 from by omega, List.drop_drop]

theorem ins_ok {nx : Int} {zs : List Z} {i : Nat} {z a b : Z} (h : InvE nx zs) (hz : zs[i]? = some z) (hl : zs.length < 16) (hid : a.id = z.id) (hep : z.ep < a.ep) (hp : a.pend = 0) (hzp : z.pend = 1) (hb : b.id = z.new) (hbe : 0 ≤ b.ep) (hbp : b.pend = 0) :
    InvE nx (insL (zs.set i a) i b) ∧ ∀ x ∈ zs, ∀ y ∈ insL (zs.set i a) i b, goodE x y := by
  have hi : i < zs.length := (List.getElem?_eq_some_iff.1 hz).1
  have hl1 : (zs.take i).length = i := by simp; omega
  have hl2 : (zs.drop (i + 1)).length = zs.length - (i + 1) := by simp
  have hs := h.one z (List.mem_of_getElem? hz)
  have hnew := hs.2.2 hzp
  have h' : InvE nx (zs.take i ++ [z] ++ zs.drop (i + 1)) := split_at hz ▸ h
  have hab : RE a b := ⟨by rw [hid, hb]; exact hnew.2, fun h1 => by omega, fun h1 => by omega, fun h1 => by omega⟩
  rw [insL_eq hz]
  refine ⟨inv_mid h' (Int.le_refl _) (fun y hy => ?_) ?_ (fun y hy x hx hr => ?_) (by rw [hl1, hl2]; simp; omega) (by rw [hl1, hl2]; simp; omega), good_of h fun y hy => ?_⟩
  · simp only [List.mem_cons, List.not_mem_nil, or_false] at hy
    rcases hy with rfl | rfl
    · exact ⟨by rw [hid]; exact hs.1, by have := hs.2.1; omega, fun h1 => by omega⟩
    · exact ⟨by rw [hb]; exact hnew.1, hbe, fun h1 => by omega⟩
  · exact List.pairwise_cons.2 ⟨fun y hy => by simp at hy; subst hy; exact hab, List.pairwise_singleton _ _⟩
  · have r := hr z (by simp)
    simp only [List.mem_cons, List.not_mem_nil, or_false] at hy
    rcases hy with rfl | rfl
    · exact ⟨by rw [hid]; exact r.1, by rw [hid]; exact r.2.1, fun h1 => by omega, fun _ h1 => by omega⟩
    · exact ⟨by rw [hb]; exact r.2.2.1 hzp, fun h1 => by rw [hb]; exact fun e => r.2.2.2 h1 hzp e.symm, fun h1 => by omega, fun _ h1 => by omega⟩
  · simp only [List.mem_append, List.mem_cons, List.not_mem_nil, or_false] at hy
    rcases hy with (hy | rfl | rfl) | hy
    · exact .inl ⟨y, List.mem_of_mem_take hy, rfl, goodE.refl y⟩
    · exact .inl ⟨z, List.mem_of_getElem? hz, hid.symm, fun _ => ⟨by omega, .inr hep⟩⟩
    · refine .inr fun x hx e => ?_
      have hx' : x ∈ zs.take i ++ [z] ++ zs.drop (i + 1) := split_at hz ▸ hx
      have t := h'.two
      rw [List.pairwise_append, List.pairwise_append] at t
      obtain ⟨⟨tA, _, tAM⟩, tC, tX⟩ := t
      simp only [List.mem_append, List.mem_cons, List.not_mem_nil, or_false] at hx'
      rw [hb] at e
      rcases hx' with (hx' | rfl) | hx'
      · exact (tAM x hx' z (by simp)).2.2.1 hzp e
      · exact hnew.2 e
      · exact (tX z (by simp) x hx').2.1 hzp e
    · exact .inl ⟨y, List.mem_of_mem_drop hy, rfl, goodE.refl y⟩

theorem del_ok {nx : Int} {zs : List Z} {i : Nat} {z a y : Z} (h : InvE nx zs) (hz : zs[i]? = some z) (hy : zs[i + 1]? = some y) (hid : a.id = z.id) (hep : z.ep < a.ep) (hp : a.pend = 0) : InvE nx (delL (zs.set i a) i) ∧ ∀ x ∈ zs, ∀ y ∈ delL (zs.set i a) i, goodE x y := by
  have hi : i + 1 < zs.length := (List.getElem?_eq_some_iff.1 hy).1
  have hle := h.le
  have hl1 : (zs.take i).length = i := by simp; omega
  have hl2 : (zs.drop (i + 1 + 1)).length = zs.length - (i + 1 + 1) := by simp
  have hs := h.one z (List.mem_of_getElem? hz)
  have hdr := drop_at hy
  have h' : InvE nx (zs.take i ++ [z, y] ++ zs.drop (i + 1 + 1)) := by
    have e : zs = zs.take i ++ [z, y] ++ zs.drop (i + 1 + 1) := by
      conv => lhs; rw [split_at hz]
      rw [hdr]; simp
    exact e ▸ h
  rw [delL_eq hz]
  refine ⟨inv_mid h' (Int.le_refl _) (fun y hy => ?_) (List.pairwise_singleton _ _) (fun y hy x hx hr => ?_) (by rw [hl1, hl2]; simp; omega) (by rw [hl1, hl2]; simp; omega), good_of h fun y hy => ?_⟩
  · simp only [List.mem_cons, List.not_mem_nil, or_false] at hy
    subst hy
    exact ⟨by rw [hid]; exact hs.1, by have := hs.2.1; omega, fun h1 => by omega⟩
  · have r := hr z (by simp)
    simp only [List.mem_cons, List.not_mem_nil, or_false] at hy
    subst hy
    exact ⟨by rw [hid]; exact r.1, by rw [hid]; exact r.2.1, fun h1 => by omega, fun _ h1 => by omega⟩
  · simp only [List.mem_append, List.mem_cons, List.not_mem_nil, or_false] at hy
    rcases hy with (hy | rfl) | hy
    · exact .inl ⟨y, List.mem_of_mem_take hy, rfl, goodE.refl y⟩
    · exact .inl ⟨z, List.mem_of_getElem? hz, hid.symm, fun _ => ⟨by omega, .inr hep⟩⟩
    · exact .inl ⟨y, List.mem_of_mem_drop hy, rfl, goodE.refl y⟩

theorem mx_ge {a b : Int} : a ≤ mx a b := by
  unfold mx
  cases hb : decide (b > a) with
  | true => have := of_decide_eq_true hb; simp only [cond_true]; omega
  | false => exact Int.le_refl _

theorem done_ok {nx : Int} {zs : List Z} {i : Nat} {z : Z} {k : Ch} {x : Int × List Z} (h : InvE nx zs) (hz : zs[i]? = some z) (hM : doneM nx zs i z k = some x) : InvE x.1 x.2 ∧ ∀ a ∈ zs, ∀ b ∈ x.2, goodE a b := by
  have hs := h.one z (List.mem_of_getElem? hz)
  unfold doneM at hM
  cases hg : (!decide (z.pend = 0) && (decide (z.ep = k.ep) && !decide (1099511627776 ≤ z.ep))) with
  | false => rw [hg] at hM; cases hM
  | true =>
    rw [hg] at hM
    simp only [cond_true] at hM
    cases h1 : decide (z.pend = 1) with
    | true =>
      have hzp := of_decide_eq_true h1
      rw [h1] at hM
      simp only [cond_true] at hM
      unfold doneS at hM
      cases hl : decide (16 ≤ ((zs.length : Nat) : Int)) with
      | true => rw [hl] at hM; cases hM
      | false =>
        have hl' := of_decide_eq_false hl
        have hne : (0 : Int) ≤ z.ep + 1 := by have := hs.2.1; omega
        rw [hl] at hM
        simp only [cond_false] at hM
        cases hcut : cutB z.lo z.hi z.key with
        | true =>
          rw [hcut] at hM
          simp only [cond_true, Option.some.injEq] at hM
          subst hM
          exact ins_ok h hz (by omega) rfl (by show z.ep < z.ep + 1; omega) rfl hzp rfl hne rfl
        | false =>
          rw [hcut] at hM
          simp only [cond_false, Option.some.injEq] at hM
          subst hM
          exact ins_ok h hz (by omega) rfl (by show z.ep < z.ep + 1; omega) rfl hzp rfl hne rfl
    | false =>
      rw [h1] at hM
      simp only [cond_false] at hM
      cases h2 : decide (z.pend = 2) with
      | true =>
        rw [h2] at hM
        simp only [cond_true] at hM
        unfold doneG at hM
        cases hy : zs[i + 1]? with
        | none => rw [hy] at hM; cases hM
        | some y =>
          rw [hy] at hM
          simp only at hM
          cases hq : (!decide (((zs.length : Nat) : Int) ≤ ((i + 1 : Nat) : Int)) && (decide (y.id = z.new) && !decide (1099511627776 ≤ mx z.ep y.ep))) with
          | false => rw [hq] at hM; cases hM
          | true =>
            rw [hq] at hM
            simp only [cond_true] at hM
            have hlt : z.ep < mx z.ep y.ep + 1 := by have := mx_ge (a := z.ep) (b := y.ep); omega
            cases hj : joinB z.lo z.hi y.lo y.hi with
            | true =>
              rw [hj] at hM
              simp only [cond_true, Option.some.injEq] at hM
              subst hM
              exact del_ok h hz hy rfl hlt rfl
            | false =>
              rw [hj] at hM
              simp only [cond_false, Option.some.injEq] at hM
              subst hM
              exact del_ok h hz hy rfl hlt rfl
      | false =>
        rw [h2] at hM
        simp only [cond_false, Option.some.injEq] at hM
        subst hM
        exact ended_ok h hz rfl (by show z.ep < z.ep + 1; omega) rfl

/-- the law of Apply -/
theorem apply_ok {v nx : Int} {zs : List Z} {hs : List Int} {k : Ch} {x : Int × Int × List Z} (h : InvE nx zs) (hM : applyM v nx zs hs k = some x) : x.1 = v + 1 ∧ v < 1099511627776 ∧ InvE x.2.1 x.2.2 ∧ ∀ a ∈ zs, ∀ b ∈ x.2.2, goodE a b := by
  unfold applyM at hM
  cases hg : (mayC k && !decide (1099511627776 ≤ v)) with
  | false => rw [hg] at hM; cases hM
  | true =>
    rw [hg] at hM
    simp only [cond_true] at hM
    have hv : v < 1099511627776 := by
      simp only [Bool.and_eq_true, Bool.not_eq_true', decide_eq_false_iff_not] at hg
      omega
    cases hf : decide (findM zs k.zone < 0) with
    | true => rw [hf] at hM; cases hM
    | false =>
      rw [hf] at hM
      simp only [cond_false] at hM
      cases hz : zs[(findM zs k.zone).toNat]? with
      | none => rw [hz] at hM; cases hM
      | some z =>
        rw [hz] at hM
        simp only at hM
        cases hK : kindM nx zs (findM zs k.zone).toNat z k hs with
        | none => rw [hK] at hM; cases hM
        | some y =>
          rw [hK] at hM
          simp only [Option.some.injEq] at hM
          subst hM
          refine ⟨rfl, hv, ?_⟩
          unfold kindM at hK
          cases k1 : decide (k.kind = 1) with
          | true => rw [k1] at hK; exact split_ok h hz hK
          | false =>
            rw [k1] at hK
            simp only [cond_false] at hK
            cases k2 : decide (k.kind = 2) with
            | true => rw [k2] at hK; exact merge_ok h hz hK
            | false =>
              rw [k2] at hK
              simp only [cond_false] at hK
              cases k3 : decide (k.kind = 3) with
              | true => rw [k3] at hK; exact move_ok h hz hK
              | false =>
                rw [k3] at hK
                simp only [cond_false] at hK
                cases k4 : decide (k.kind = 4) with
                | true => rw [k4] at hK; exact done_ok h hz hK
                | false =>
                  rw [k4] at hK
                  simp only [cond_false] at hK
                  cases k5 : decide (k.kind = 5) with
                  | true => rw [k5] at hK; exact abort_ok h hz hK
                  | false => rw [k5] at hK; cases hK

end Go.Ev.Dir

namespace Go.Ev.Dir
open Go.Ev Go.Proofs Go.ChangeShapes Go.WideShapes
set_option linter.unusedSectionVars false
set_option linter.unusedVariables false

def chFields : Array Field := #[Field.mk "Kind" 3 0 false "" "" 0, Field.mk "Zone" 3 1 false "" "" 8, Field.mk "Epoch" 3 2 false "" "" 16, Field.mk "To" 3 3 false "" "" 24, Field.mk "Key" 9 4 false "" "" 32]
theorem und34 : Try.prog.underlying 34 = some (.struct chFields) := by kernel_rfl
theorem und22 : Try.prog.underlying 22 = some (.slice 34) := by kernel_rfl
theorem und3 : Try.prog.underlying 3 = some (.int .i64) := by kernel_rfl
theorem und9 : Try.prog.underlying 9 = some .string := by kernel_rfl
theorem csz34 : Try.prog.cellsOf 34 = 5 := by kernel_rfl
theorem csz3 : Try.prog.cellsOf 3 = 1 := by kernel_rfl
theorem csz9 : Try.prog.cellsOf 9 = 1 := by kernel_rfl

set_option maxRecDepth 100000 in
/-- the cells of a change -/
theorem open_ch {H : Type} {enc : TypeId × Value → H} {W : World} {base : Nat} {spare : Nat → Bool} {held : Bool} {n : Nat} {cs : List Value} {x : DataW H × List MemPlace} (hl : cs.length = 5) (h : DataW.trod enc Try.prog W base spare held n 34 cs = some x) : ∃ c : Ch, cs = c.cells := by
  obtain ⟨xs, n', _, _, _, hlen, hf⟩ := DataW.trod_struct (P := Try.prog) und34 h
  have hlen' : xs.length = 5 := hlen
  match cs, hl, xs, hlen' with
  | [a, b, c, d, e], _, [x0, x1, x2, x3, x4], _ =>
    have f0 := hf 0 _ rfl
    have f1 := hf 1 _ rfl
    have f2 := hf 2 _ rfl
    have f3 := hf 3 _ rfl
    have f4 := hf 4 _ rfl
    obtain ⟨k, e0, _⟩ := DataW.trod_int (P := Try.prog) und3 f0
    obtain ⟨z, e1, _⟩ := DataW.trod_int (P := Try.prog) und3 f1
    obtain ⟨ep, e2, _⟩ := DataW.trod_int (P := Try.prog) und3 f2
    obtain ⟨t, e3, _⟩ := DataW.trod_int (P := Try.prog) und3 f3
    obtain ⟨s, e4, _⟩ := DataW.trod_string (P := Try.prog) und9 f4
    have g0 : ([a, b, c, d, e].drop 0).take 1 = [.int .i64 k] := by rw [← csz3]; exact e0
    have g1 : ([a, b, c, d, e].drop 1).take 1 = [.int .i64 z] := by rw [← csz3]; exact e1
    have g2 : ([a, b, c, d, e].drop 2).take 1 = [.int .i64 ep] := by rw [← csz3]; exact e2
    have g3 : ([a, b, c, d, e].drop 3).take 1 = [.int .i64 t] := by rw [← csz3]; exact e3
    have g4 : ([a, b, c, d, e].drop 4).take 1 = [.string s] := by rw [← csz9]; exact e4
    simp only [List.drop_zero, List.drop_succ_cons, List.take_succ_cons, List.take_zero, List.cons.injEq, and_true] at g0 g1 g2 g3 g4
    subst g0 g1 g2 g3 g4
    exact ⟨⟨k, z, ep, t, s⟩, rfl⟩

theorem flatC_get : ∀ (L : List Ch) (i : Nat) (v : Value), (flatC L)[i]? = some v → ∃ j r c, i = j * 5 + r ∧ r < 5 ∧ L[j]? = some c ∧ c.cells[r]? = some v
  | [], i, v, h => by simp [flatC] at h
  | c :: L, i, v, h => by
    have h5 : c.cells.length = 5 := rfl
    unfold flatC at h
    by_cases hi : i < 5
    · rw [List.getElem?_append_left (by omega)] at h
      exact ⟨0, i, c, by omega, hi, rfl, h⟩
    · rw [List.getElem?_append_right (by omega)] at h
      obtain ⟨j, r, c', a1, a2, a3, a4⟩ := flatC_get L _ v h
      exact ⟨j + 1, r, c', by omega, a2, a3, a4⟩

theorem cell_heap {w : World} {b i : Nat} {v : Value} (h : w.cell? ⟨b, i, none⟩ = some v) : ∃ c el fz, w.heap[b]? = some (.cells c el fz) ∧ c[i]? = some v := by
  unfold World.cell? at h
  split at h
  · rename_i c el fz hb
    exact ⟨c, el, fz, hb, by simpa using h⟩
  · simp at h

theorem add_none (a : Addr) (i : Nat) (h : a.spot = none) : a.add i = ⟨a.block, a.off + i, none⟩ := by
  obtain ⟨b, o, s⟩ := a
  simp only at h
  subst h
  unfold Addr.add
  by_cases hi : i = 0
  · simp [hi]
  · simp [hi]

/-- a slice of changes: none, of no length, or a row -/
theorem open_chs {H : Type} {enc : TypeId × Value → H} {W : World} {spare : Nat → Bool} {held : Bool} {v : Value} {d : DataW H} {ps : List MemPlace} (h : DataW.Trod enc Try.prog W 0 spare held 22 v d ps) (hcs : v.cells.toList = [v]) :
    v = .slice none 0 0 ∨ (∃ a cap, v = .slice (some a) 0 cap) ∨ ∃ b off cap c el fz, ∃ L : List Ch, 1 ≤ L.length ∧ v = .slice (some ⟨b, off, none⟩) L.length cap ∧ cap < UNK ∧ W.heap[b]? = some (.cells c el fz) ∧ off + (flatC L).length ≤ c.size ∧ ∀ i u, (flatC L)[i]? = some u → c[off + i]? = some u := by
  obtain ⟨n, hn⟩ := h
  rw [hcs] at hn
  rcases Go.Deep.open_slice und22 hn with ⟨h0, _⟩ | ⟨a, len, cap, m, k, D, Pl, h0, hb, hl, hm, hmm, _, hx⟩
  · exact .inl (by simpa using h0)
  · have hv : v = .slice (some a) len cap := by simpa using h0
    rcases Nat.eq_zero_or_pos len with hz | hpos
    · subst hz
      exact .inr (.inl ⟨a, cap, hv⟩)
    · refine .inr (.inr ?_)
      have hlm : len ≤ m := by rw [hmm]; split <;> omega
      rw [csz34] at hx
      have each : ∀ i, i < len → ∃ c : Ch, ∀ r v, c.cells[r]? = some v → W.cell? ((a.add (i * 5)).add r) = some v := by
        intro i hi
        obtain ⟨cs', h1, h2⟩ := hx i (by omega)
        obtain ⟨_, h3, h4⟩ := World.cells?_some h1
        obtain ⟨c, rfl⟩ := open_ch h3 h2
        refine ⟨c, fun r v hv => ?_⟩
        have hr : r < 5 := (List.getElem?_eq_some_iff.1 hv).1
        rw [h4 r hr, hv]
      haveI : Inhabited Ch := ⟨⟨0, 0, 0, 0, ⟨⟨[]⟩⟩⟩⟩
      obtain ⟨f, hf⟩ := Go.Deep.choose_lt each
      have hspot : a.spot = none := by
        have h1 := hf 0 hpos 0 _ rfl
        have := World.cell?_spot h1
        rw [Nat.zero_mul, Go.Deep.add_add] at this
        simpa [Addr.add] using this
      have hcell : ∀ i u, (flatC ((List.range len).map f))[i]? = some u → W.cell? ⟨a.block, a.off + i, none⟩ = some u := by
        intro i u hu
        obtain ⟨j, r, c, rfl, hr, hj, hc⟩ := flatC_get _ i u hu
        have hjl : j < len := by
          have := (List.getElem?_eq_some_iff.1 hj).1
          simpa using this
        have hjc : c = f j := by
          rw [List.getElem?_map, List.getElem?_range hjl] at hj
          simpa using hj.symm
        subst hjc
        have h1 := hf j hjl r u hc
        rw [Go.Deep.add_add, add_none _ _ hspot] at h1
        exact h1
      have h5 : (flatC ((List.range len).map f)).length = 5 * len := by rw [flatC_length]; simp
      obtain ⟨c, el, fz, hc, _⟩ := cell_heap (hcell 0 _ (List.getElem?_eq_getElem (by omega)))
      have hget : ∀ i u, (flatC ((List.range len).map f))[i]? = some u → c[a.off + i]? = some u := by
        intro i u hu
        obtain ⟨c', el', fz', hc', hcu⟩ := cell_heap (hcell i u hu)
        rw [hc] at hc'
        cases hc'
        exact hcu
      refine ⟨a.block, a.off, cap, c, el, fz, (List.range len).map f, by simp; omega, ?_, ?_, hc, ?_, hget⟩
      · rw [hv]
        obtain ⟨b', o', s'⟩ := a
        simp only at hspot
        subst hspot
        simp
      · have : maxLen = 9223372036854775807 := by decide
        have : UNK = 9223372036854775808 := rfl
        omega
      · have hlast := hget (5 * len - 1) _ (List.getElem?_eq_getElem (by omega))
        have := (Array.getElem?_eq_some_iff.1 hlast).1
        omega

/-- a world that has the row, and nothing else known -/
theorem Rel.row [Atoms] {W : World} {b off : Nat} {c : Array Value} {el : TypeId} {fz : Nat × Nat} {L : List Ch} (hb : W.heap[b]? = some (.cells c el fz)) (hle : off + (flatC L).length ≤ c.size) (hget : ∀ i u, (flatC L)[i]? = some u → c[off + i]? = some u) :
    Rel (upTo W.heap.size) W (fun o => if o = 0 then some ⟨b, off, 5, c.size⟩ else none) (mC L) W where
  below := Kept.refl _ _
  base := fun _ h => h
  dom o l e := by
    by_cases ho : o = 0
    · subst ho
      simp only [if_true, Option.some.injEq] at e
      subst e
      exact ⟨Nat.zero_lt_one, (Array.getElem?_eq_some_iff.1 hb).1⟩
    · simp [ho] at e
  obj o l e := by
    by_cases ho : o = 0
    · subst ho
      simp only [if_true, Option.some.injEq] at e
      subst e
      refine ⟨rfl, fun g hg => (by cases hg), c, el, fz, hb, rfl, hle, fun h => absurd rfl h, fun _ i u hu => ⟨u, hget i u hu, ?_⟩⟩
      have hfl : flat1 u = true := by
        obtain ⟨j, r, x, _, hr, _, hc⟩ := flatC_get L i u hu
        have := List.mem_of_getElem? hc
        unfold Ch.cells at this
        simp only [List.mem_cons, List.not_mem_nil, or_false] at this
        rcases this with rfl | rfl | rfl | rfl | rfl <;> rfl
      unfold flat1 at hfl
      split at hfl
      · exact .bool _
      · exact .int _ _
      · exact .string _
      · cases hfl
    · simp [ho] at e
  sep o1 o2 l1 l2 hne e1 e2 hbb := by
    by_cases h1 : o1 = 0
    · by_cases h2 : o2 = 0
      · omega
      · simp [h2] at e2
    · simp [h1] at e1

end Go.Ev.Dir
