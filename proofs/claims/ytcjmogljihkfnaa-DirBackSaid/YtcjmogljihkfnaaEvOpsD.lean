/- A part of an evaluator of the model and of the proof that what it answers the model does; no condition. -/
import Derived.Test.YtcjmogljihkfnaaEvOpsC
import Derived.Lib.ConvBytes
import Derived.Laws.BytesArg
import Derived.Laws.StructEq
import Derived.Laws.Strings2
set_option linter.unusedVariables false
set_option linter.unusedSimpArgs false
namespace Go.Ev
set_option linter.unusedSectionVars false
variable [Atoms]
open Go.RowKit (Below)

section
variable {B : Nat} {w0 : World} {μ : Mu} {m : Mem} {w : World} {P : Program} {C : Ctx}

theorem partV_sound (hC : C.Ok P) {t : TypeId} {cs : List Value} {off : Nat} {v : Value} {cs' : Array Value} (hc : LRel μ cs cs'.toList) (hp : partV C t cs off = some v) (w : World) :
    ∃ v', (part t cs' off).run P w = .ok v' w ∧ VRel μ v v' := by
  unfold partV at hp
  cases ht : tinfo C t with
  | none => rw [ht] at hp; cases hp
  | some ti =>
    rw [ht] at hp
    obtain ⟨d, i, hd, hi, rfl⟩ := tinfo_spec hC ht
    simp only [Option.bind_some] at hp
    unfold part
    cases hagg : isAggD d with
    | true =>
      rw [hagg] at hp
      simp only [cond_true, Option.some.injEq] at hp
      subst hp
      refine ⟨.agg (cs'.extract off (off + i.size)), by simp [run_isAgg hd, hagg, run_sizeOf hi], ?_⟩
      have : (cs'.extract off (off + i.size)) = ⟨(cs'.toList.drop off).take i.size⟩ := by
        apply Array.ext'
        simp
      rw [this]
      exact .agg' ((hc.drop off).take i.size)
    | false =>
      rw [hagg] at hp
      simp only [cond_false] at hp
      obtain ⟨v', h1, h2⟩ := hc.get hp
      have h1' : cs'[off]? = some v' := by simpa using h1
      exact ⟨v', by simp [run_isAgg hd, hagg, h1'], h2⟩

theorem fieldOf_spec (hC : C.Ok P) {t : TypeId} {f : Nat} {g : Field} (h : fieldOf C t f = some g) : ∃ fs, P.underlying t = some (.struct fs) ∧ fs[f]? = some g := by
  unfold fieldOf at h
  split at h
  · rename_i fs hu; exact ⟨fs, hC.under hu, h⟩
  · cases h

theorem field_sound (hC : C.Ok P) (h : Rel B w0 μ m w) {t : TypeId} {x x' v : Value} {f : Nat}
    (hp : (match x with | .agg cs => (fieldOf C t f).bind fun g => partV C g.type cs.toList g.offset | _ => none) = some v) (hx : VRel μ x x') : OpRes P B w0 μ m (Instr.field t x' f) w v m := by
  cases hx with
  | agg h1 h2 =>
    rename_i as bs
    simp only at hp
    cases hf : fieldOf C t f with
    | none => rw [hf] at hp; cases hp
    | some g =>
      rw [hf] at hp
      simp only [Option.bind_some] at hp
      obtain ⟨fs, hu, hg⟩ := fieldOf_spec hC hf
      obtain ⟨v', hr, hv⟩ := partV_sound hC (cs' := ⟨bs⟩) ⟨h1, h2⟩ hp w
      exact ⟨v', w, by simp [Instr.field, run_underlying hu, hg, asAgg, hr], .same h hv⟩
  | _ => cases hp

theorem fieldAddr_sound (hC : C.Ok P) (h : Rel B w0 μ m w) {t : TypeId} {x x' : Value} {f o off n : Nat} {g : Field} (hx : VRel μ x x') (he : x = .pointer (some ⟨o, off, none⟩))
    (hf : fieldOf C t f = some g) (hn : C.size g.type = some n) (hz : n ≠ 0) : OpRes P B w0 μ m (Instr.fieldAt t x' f) w (ptr o (off + g.offset)) m := by
  subst he
  cases hx with
  | ptr ho =>
    rename_i l
    obtain ⟨fs, hu, hg⟩ := fieldOf_spec hC hf
    obtain ⟨i, hi, hs⟩ := hC.size hn
    refine ⟨.pointer (some ⟨l.blk, l.base + off + g.offset, none⟩), w, ?_, .same h ?_⟩
    · simp [Instr.fieldAt, run_underlying hu, hg, Instr.sureAddr, fieldPlace, run_sizeOf hi, hs, hz, addr_add]
    · rw [show l.base + off + g.offset = l.base + (off + g.offset) from by omega]
      exact .ptr ho

theorem indexAddr_sound (hC : C.Ok P) (h : Rel B w0 μ m w) {t e : TypeId} {x x' ix' : Value} {o off i n : Nat} {k : IntKind} (hx : VRel μ x x') (hix : ix' = .int k i) (hn : C.size e = some n)
    (hcase : (∃ len c, C.under t = some (.slice e) ∧ x = .slice (some ⟨o, off, none⟩) len c ∧ i < len) ∨
      (∃ len, C.under t = some (.array len e) ∧ x = .pointer (some ⟨o, off, none⟩) ∧ i < len)) :
    OpRes P B w0 μ m (Instr.indexAt t x' ix') w (ptr o (off + i * n)) m := by
  subst hix
  obtain ⟨inf, hi, hs⟩ := hC.size hn
  rcases hcase with ⟨len, c, hu, rfl, hlt⟩ | ⟨len, hu, rfl, hlt⟩
  · have hu' := hC.under hu
    cases hx with
    | slice ho h1 h2 =>
      rename_i c' l
      refine ⟨.pointer (some ⟨l.blk, l.base + off + i * n, none⟩), w, ?_, .same h ?_⟩
      · simp [Instr.indexAt, asIntOf, run_underlying hu', run_sizeOf hi, hs, hlt, addr_add]
      · rw [show l.base + off + i * n = l.base + (off + i * n) from by omega]
        exact .ptr ho
    | semp => omega
  · have hu' := hC.under hu
    cases hx with
    | ptr ho =>
      rename_i l
      refine ⟨.pointer (some ⟨l.blk, l.base + off + i * n, none⟩), w, ?_, .same h ?_⟩
      · simp [Instr.indexAt, asIntOf, run_underlying hu', run_sizeOf hi, hs, hlt, addr_add, Instr.sureAddr]
      · rw [show l.base + off + i * n = l.base + (off + i * n) from by omega]
        exact .ptr ho

theorem bytes_get (s : ByteArray) (i : Nat) : s[i]? = s.data.toList[i]? := by
  by_cases h : i < s.size
  · rw [ByteArray.getElem?_lt' s i h]
    have : i < s.data.toList.length := by simpa using h
    rw [List.getElem?_eq_getElem this]
    simp
    rfl
  · rw [ByteArray.getElem?_ge' s i h]
    symm
    rw [List.getElem?_eq_none]
    simp only [Array.length_toList]
    exact Nat.not_lt.1 h

theorem index_sound (hC : C.Ok P) (h : Rel B w0 μ m w) {t : TypeId} {x x' ix' v : Value} {i : Nat} {k : IntKind} (hix : ix' = .int k i)
    (hp : (match C.under t, x with
     | some (.array len e), .agg cs => bif Nat.blt i len then (C.size e).bind fun n => partV C e cs.toList (i * n) else none
     | some .string, .string s => (match s.data.toList[i]? with | some b => some (.int .u8 b.toNat) | none => none)
     | _, _ => none) = some v) (hx : VRel μ x x') : OpRes P B w0 μ m (Instr.index t x' ix') w v m := by
  subst hix
  split at hp
  · rename_i len e cs hu
    have hu' := hC.under hu
    cases hx with
    | agg h1 h2 =>
      rename_i as bs
      cases hlt : Nat.blt i len with
      | false => rw [hlt] at hp; cases hp
      | true =>
        rw [hlt] at hp
        simp only [cond_true] at hp
        have hlt' : i < len := Nat.le_of_ble_eq_true hlt
        cases hn : C.size e with
        | none => rw [hn] at hp; cases hp
        | some n =>
          rw [hn] at hp
          simp only [Option.bind_some] at hp
          obtain ⟨inf, hi, hs⟩ := hC.size hn
          obtain ⟨v', hr, hv⟩ := partV_sound hC (cs' := ⟨bs⟩) ⟨h1, h2⟩ hp w
          exact ⟨v', w, by simp [Instr.index, asIntOf, run_underlying hu', run_sizeOf hi, hs, hlt', hr], .same h hv⟩
  · rename_i s hu
    have hu' := hC.under hu
    cases hx with
    | string s =>
      cases hg : s.data.toList[i]? with
      | none => rw [hg] at hp; cases hp
      | some b =>
        rw [hg] at hp
        simp only [Option.some.injEq] at hp
        subst hp
        refine ⟨_, w, ?_, .same h (.int .u8 _)⟩
        have hb : s[i]? = some b := by rw [bytes_get]; exact hg
        simp [Instr.index, asIntOf, run_underlying hu', hb]
  · cases hp

/-- how a bound reaches the model -/
def Bound (v : Option Value) (d n : Nat) : Prop := (v = none ∧ n = d) ∨ ∃ k, v = some (.int k n)

theorem bound_of {a a' : Option Value} {d n : Nat} (ha : ∀ u, a = some u → ∃ u', a' = some u' ∧ VRel μ u u') (han : a = none → a' = none) (hn : optN d a = some n) : Bound a' d n := by
  cases a with
  | none => simp only [optN, Option.some.injEq] at hn; exact .inl ⟨han rfl, hn.symm⟩
  | some u =>
    obtain ⟨u', h1, h2⟩ := ha u rfl
    obtain ⟨k, rfl⟩ := asN_some hn
    cases h2
    exact .inr ⟨k, h1⟩

theorem run_bound (k : IntKind) (n y : Nat) (code : BoundsCode) (w : World) (hle : n ≤ y) : (Instr.sliceBound (.int k n) y code).run P w = .ok n w := by
  have : (n : Int) ≤ (y : Int) := by omega
  simp [Instr.sliceBound, asIntOf, this]

theorem slice_run {t e : TypeId} {i : TypeInfo} (hu : P.underlying t = some (.slice e)) (hi : P.info? e = some i) {a : Option Addr} {len cap l h m : Nat} {lo hi' mx : Option Value}
    (hl : Bound lo 0 l) (hh : Bound hi' len h) (hm : Bound mx cap m) (hmx : mx.isNone = true ∨ hi'.isSome = true) (h1 : l ≤ h) (h2 : h ≤ m) (h3 : m ≤ cap) (w : World) :
    (Instr.sliceAt t (.slice a len cap) lo hi' mx).run P w = .ok (.slice (if m = l then a else a.map (·.add (l * i.size))) (h - l) (m - l)) w := by
  rcases hm with ⟨rfl, rfl⟩ | ⟨km, rfl⟩ <;> rcases hh with ⟨rfl, rfl⟩ | ⟨kh, rfl⟩ <;> rcases hl with ⟨rfl, rfl⟩ | ⟨kl, rfl⟩
  · simp [Instr.sliceAt, run_underlying hu, Instr.slice, Instr.sliceBounds, run_sizeOf hi]
  · simp [Instr.sliceAt, run_underlying hu, Instr.slice, Instr.sliceBounds, run_sizeOf hi, run_bound _ _ _ _ _ h1]
  · simp [Instr.sliceAt, run_underlying hu, Instr.slice, Instr.sliceBounds, run_sizeOf hi, run_bound _ _ _ _ _ h2]
  · simp [Instr.sliceAt, run_underlying hu, Instr.slice, Instr.sliceBounds, run_sizeOf hi, run_bound _ _ _ _ _ h1, run_bound _ _ _ _ _ h2]
  · rcases hmx with q | q <;> cases q
  · rcases hmx with q | q <;> cases q
  · simp [Instr.sliceAt, run_underlying hu, Instr.slice, Instr.sliceBounds, run_sizeOf hi, run_bound _ _ _ _ _ h2, run_bound _ _ _ _ _ h3]
  · simp [Instr.sliceAt, run_underlying hu, Instr.slice, Instr.sliceBounds, run_sizeOf hi, run_bound _ _ _ _ _ h1, run_bound _ _ _ _ _ h2, run_bound _ _ _ _ _ h3]

theorem map_add (b o n : Nat) : (some (⟨b, o, none⟩ : Addr)).map (·.add n) = some ⟨b, o + n, none⟩ := by rw [Option.map_some, addr_add]

theorem ble_true {a b : Nat} (h : a ≤ b) : Nat.ble a b = true := Nat.ble_eq_true_of_le h
theorem ble_false {a b : Nat} (h : b < a) : Nat.ble a b = false := by
  cases hq : Nat.ble a b with
  | false => rfl
  | true => have := Nat.le_of_ble_eq_true hq; omega
theorem lt_of_ble_false {a b : Nat} (h : Nat.ble a b = false) : b < a := by
  rcases Nat.lt_or_ge b a with q | q
  · exact q
  · rw [ble_true q] at h; cases h
theorem ne_of_beq_false {a b : Nat} (h : Nat.beq a b = false) : a ≠ b := by
  rintro rfl; rw [Nat.beq_refl] at h; cases h

theorem slice_sound (hC : C.Ok P) (h : Rel B w0 μ m w) {t : TypeId} {x x' v : Value} {lo hi mx lo' hi' mx' : Option Value} (hx : VRel μ x x')
    (hlo : ∀ a, lo = some a → ∃ a', lo' = some a' ∧ VRel μ a a') (hlon : lo = none → lo' = none)
    (hhi : ∀ a, hi = some a → ∃ a', hi' = some a' ∧ VRel μ a a') (hhin : hi = none → hi' = none)
    (hmx : ∀ a, mx = some a → ∃ a', mx' = some a' ∧ VRel μ a a') (hmxn : mx = none → mx' = none)
    (hp : sliceV C t x lo hi mx = some v) : OpRes P B w0 μ m (Instr.sliceAt t x' lo' hi' mx') w v m := by
  unfold sliceV at hp
  cases hu : C.under t with
  | none => rw [hu] at hp; cases hp
  | some d =>
  rw [hu] at hp
  have hu' := hC.under hu
  cases hx with
  | string s =>
    cases d <;> try (cases hp; done)
    simp only at hp
    cases hh : optN s.data.size hi with
    | none => rw [hh] at hp; cases hp
    | some hv =>
      rw [hh] at hp
      simp only [Option.bind_some] at hp
      cases hl : optN 0 lo with
      | none => rw [hl] at hp; cases hp
      | some lv =>
        rw [hl] at hp
        simp only [Option.bind_some] at hp
        cases hc : (Nat.ble lv hv && Nat.ble hv s.data.size && mx.isNone) with
        | false => rw [hc] at hp; cases hp
        | true =>
          rw [hc] at hp
          rw [Bool.and_eq_true, Bool.and_eq_true] at hc
          have h1 := Nat.le_of_ble_eq_true hc.1.1
          have h2 := Nat.le_of_ble_eq_true hc.1.2
          have h3 : mx = none := Option.isNone_iff_eq_none.1 hc.2
          have h4 := hmxn h3
          simp only [cond_true, Option.some.injEq] at hp
          subst hp
          have hext : s.extract lv hv = ⟨⟨(s.data.toList.drop lv).take (hv - lv)⟩⟩ := by
            have := ByteArray.extract_mk s.data.toList lv hv
            simpa using this
          refine ⟨.string (s.extract lv hv), w, ?_, .same h (by rw [hext]; exact .string _)⟩
          subst h4
          have h2 : hv ≤ s.size := h2
          have hh : optN s.size hi = some hv := hh
          rcases bound_of hhi hhin hh with ⟨rfl, rfl⟩ | ⟨k, rfl⟩ <;> rcases bound_of hlo hlon hl with ⟨rfl, rfl⟩ | ⟨k', rfl⟩
          · simp [Instr.sliceAt, run_underlying hu', Instr.slice, Instr.sliceBounds]
          · simp [Instr.sliceAt, run_underlying hu', Instr.slice, Instr.sliceBounds, run_bound _ _ _ _ _ h1]
          · simp [Instr.sliceAt, run_underlying hu', Instr.slice, Instr.sliceBounds, run_bound _ _ _ _ _ h2]
          · simp [Instr.sliceAt, run_underlying hu', Instr.slice, Instr.sliceBounds, run_bound _ _ _ _ _ h2, run_bound _ _ _ _ _ h1]
  | snil =>
    cases d <;> try (cases hp; done)
    rename_i e
    simp only at hp
    cases hi2 : C.info e with
    | none => rw [hi2] at hp; cases hp
    | some i =>
      rw [hi2] at hp
      have hi3 := hC.info hi2
      simp only [Option.bind_some] at hp
      cases hm : optCap 0 0 mx with
      | none => rw [hm] at hp; cases hp
      | some mv =>
        rw [hm] at hp
        simp only [Option.bind_some] at hp
        cases hh : optN 0 hi with
        | none => rw [hh] at hp; cases hp
        | some hv =>
          rw [hh] at hp
          simp only [Option.bind_some] at hp
          cases hl : optN 0 lo with
          | none => rw [hl] at hp; cases hp
          | some lv =>
            rw [hl] at hp
            simp only [Option.bind_some] at hp
            have hm0 : Bound mx' 0 mv ∧ mv = 0 := by
              cases mx with
              | none => simp only [optCap, Option.some.injEq] at hm; subst hm; exact ⟨.inl ⟨hmxn rfl, rfl⟩, rfl⟩
              | some u =>
                simp only [optCap] at hm
                cases hn : asN u with
                | none => rw [hn] at hm; cases hm
                | some n =>
                  rw [hn] at hm
                  simp only [Option.bind_some] at hm
                  cases hb : (Nat.ble n (capOf 0 0) && Nat.blt n UNK && !Nat.beq 0 UNK) with
                  | false => rw [hb] at hm; cases hm
                  | true =>
                    rw [hb] at hm
                    simp only [cond_true, Option.some.injEq] at hm
                    subst hm
                    rw [Bool.and_eq_true, Bool.and_eq_true] at hb
                    have hle := Nat.le_of_ble_eq_true hb.1.1
                    have hc0 : capOf 0 0 = 0 := by unfold capOf; rw [ble_false (by rw [UNK_eq]; omega)]; rfl
                    rw [hc0] at hle
                    have : n = 0 := by omega
                    subst this
                    exact ⟨bound_of (d := 0) hmx (fun q => by cases q) (by simpa [optN] using hn), rfl⟩
            obtain ⟨hmb, rfl⟩ := hm0
            have hc0 : capOf 0 0 = 0 := by unfold capOf; rw [ble_false (by rw [UNK_eq]; omega)]; rfl
            rw [hc0] at hp
            cases hc : (Nat.ble lv hv && Nat.ble hv 0 && (Nat.ble 0 UNK || Nat.beq (szOf 0) i.size) && (mx.isNone || hi.isSome)) with
            | false => rw [hc] at hp; cases hp
            | true =>
              rw [hc] at hp
              rw [Bool.and_eq_true, Bool.and_eq_true, Bool.and_eq_true] at hc
              have h1 := Nat.le_of_ble_eq_true hc.1.1.1
              have h2 := Nat.le_of_ble_eq_true hc.1.1.2
              have hv0 : hv = 0 := by omega
              subst hv0
              have lv0 : lv = 0 := by omega
              subst lv0
              simp only [cond_true, Option.some.injEq] at hp
              subst hp
              have hq : mx'.isNone = true ∨ hi'.isSome = true := by
                rcases Bool.or_eq_true _ _ |>.mp hc.2 with q | q
                · left; rw [hmxn (Option.isNone_iff_eq_none.1 q)]; rfl
                · right
                  obtain ⟨u, hu2⟩ := Option.isSome_iff_exists.1 q
                  obtain ⟨u', h5, _⟩ := hhi u hu2
                  rw [h5]; rfl
              have hr := slice_run hu' hi3 (a := none) (len := 0) (cap := 0) (bound_of hlo hlon hl) (bound_of hhi hhin hh) hmb hq (Nat.le_refl _) (Nat.le_refl _) (Nat.le_refl _) w
              refine ⟨_, w, hr, .same h ?_⟩
              unfold sliceIn
              rw [ble_false (by rw [UNK_eq]; omega)]
              exact .snil
  | slice ho hcap hunk =>
    rename_i o off len cap cap' l
    cases d <;> try (cases hp; done)
    rename_i e
    simp only at hp
    cases hi2 : C.info e with
    | none => rw [hi2] at hp; cases hp
    | some i =>
      rw [hi2] at hp
      have hi3 := hC.info hi2
      simp only [Option.bind_some] at hp
      cases hm : optCap len cap mx with
      | none => rw [hm] at hp; cases hp
      | some mv =>
        rw [hm] at hp
        simp only [Option.bind_some] at hp
        cases hh : optN len hi with
        | none => rw [hh] at hp; cases hp
        | some hv =>
          rw [hh] at hp
          simp only [Option.bind_some] at hp
          cases hl : optN 0 lo with
          | none => rw [hl] at hp; cases hp
          | some lv =>
            rw [hl] at hp
            simp only [Option.bind_some] at hp
            cases hc : (Nat.ble lv hv && Nat.ble hv (capOf len mv) && (Nat.ble mv UNK || Nat.beq (szOf mv) i.size) && (mx.isNone || hi.isSome)) with
            | false => rw [hc] at hp; cases hp
            | true =>
              rw [hc] at hp
              rw [Bool.and_eq_true, Bool.and_eq_true, Bool.and_eq_true] at hc
              have h1 := Nat.le_of_ble_eq_true hc.1.1.1
              have h2 := Nat.le_of_ble_eq_true hc.1.1.2
              have h3 := hc.1.2
              simp only [cond_true, Option.some.injEq] at hp
              subst hp
              have hq : mx'.isNone = true ∨ hi'.isSome = true := by
                rcases Bool.or_eq_true _ _ |>.mp hc.2 with q | q
                · left; rw [hmxn (Option.isNone_iff_eq_none.1 q)]; rfl
                · right
                  obtain ⟨u, hu2⟩ := Option.isSome_iff_exists.1 q
                  obtain ⟨u', h5, _⟩ := hhi u hu2
                  rw [h5]; rfl
              -- the capacity that the model has
              obtain ⟨mv', hmb, hmlt, hmge, hmle⟩ : ∃ mv', Bound mx' cap' mv' ∧ (mv < UNK → mv' = mv) ∧ (UNK ≤ mv → mv = cap ∧ mv' = cap') ∧ mv' ≤ cap' := by
                cases mx with
                | none =>
                  simp only [optCap, Option.some.injEq] at hm
                  subst hm
                  exact ⟨cap', .inl ⟨hmxn rfl, rfl⟩, hcap, fun _ => ⟨rfl, rfl⟩, Nat.le_refl _⟩
                | some u =>
                  simp only [optCap] at hm
                  cases hn : asN u with
                  | none => rw [hn] at hm; cases hm
                  | some n =>
                    rw [hn] at hm
                    simp only [Option.bind_some] at hm
                    cases hb : (Nat.ble n (capOf len cap) && Nat.blt n UNK && !Nat.beq cap UNK) with
                    | false => rw [hb] at hm; cases hm
                    | true =>
                      rw [hb] at hm
                      simp only [cond_true, Option.some.injEq] at hm
                      subst hm
                      rw [Bool.and_eq_true, Bool.and_eq_true] at hb
                      have hle := Nat.le_of_ble_eq_true hb.1.1
                      have hlt : n < UNK := Nat.le_of_ble_eq_true hb.1.2
                      refine ⟨n, bound_of hmx (fun q => by cases q) (by simpa [optN] using hn), fun _ => rfl, fun hge => absurd hlt (Nat.not_lt.2 hge), ?_⟩
                      unfold capOf at hle
                      cases hu2 : Nat.ble UNK cap with
                      | true =>
                        rw [hu2] at hle
                        simp only [cond_true] at hle
                        have := (hunk (Nat.le_of_ble_eq_true hu2)).2.2.2
                        have := (hunk (Nat.le_of_ble_eq_true hu2)).1.2
                        cases hq : Nat.ble len (lbOf cap) <;> rw [hq] at hle <;> simp only [cond_true, cond_false] at hle <;> omega
                      | false =>
                        rw [hu2] at hle
                        simp only [cond_false] at hle
                        rw [hcap (lt_of_ble_false hu2)]
                        exact hle
              have hhm : hv ≤ mv' := by
                unfold capOf at h2
                cases hu2 : Nat.ble UNK mv with
                | true =>
                  rw [hu2] at h2
                  simp only [cond_true] at h2
                  have hge := Nat.le_of_ble_eq_true hu2
                  obtain ⟨e1, e2⟩ := hmge hge
                  subst e1
                  have := (hunk hge).2.2.2
                  have := (hunk hge).1.2
                  cases hq : Nat.ble len (lbOf mv) <;> rw [hq] at h2 <;> simp only [cond_true, cond_false] at h2 <;> omega
                | false =>
                  rw [hu2] at h2
                  simp only [cond_false] at h2
                  rw [hmlt (lt_of_ble_false hu2)]
                  exact h2
              have hr := slice_run hu' hi3 (a := some ⟨l.blk, l.base + off, none⟩) (len := len) (cap := cap') (bound_of hlo hlon hl) (bound_of hhi hhin hh) hmb hq h1 hhm hmle w
              refine ⟨_, w, hr, .same h ?_⟩
              unfold sliceIn moved
              cases hu2 : Nat.ble UNK mv with
              | false =>
                have hlt := lt_of_ble_false hu2
                have e1 := hmlt hlt
                subst e1
                simp only [cond_false]
                by_cases hml : mv' = lv
                · subst hml
                  simp only [Nat.beq_refl, cond_true, if_true]
                  exact VRel.slice ho (fun _ => rfl) (fun q => absurd q (by rw [UNK_eq] at *; omega))
                · have hb : Nat.beq mv' lv = false := by
                    cases hb : Nat.beq mv' lv with
                    | false => rfl
                    | true => exact absurd (Nat.eq_of_beq_eq_true hb) hml
                  simp only [hb, cond_false, if_neg hml, Option.map_some, addr_add]
                  rw [show l.base + off + lv * i.size = l.base + (off + lv * i.size) from by omega]
                  exact VRel.slice ho (fun _ => rfl) (fun q => absurd q (by rw [UNK_eq] at *; omega))
              | true =>
                have hge := Nat.le_of_ble_eq_true hu2
                obtain ⟨e1, e2⟩ := hmge hge
                subst e1; subst e2
                obtain ⟨u1, u2, u3, u4⟩ := hunk hge
                have e0 : szOf UNK = 0 := by decide
                have hsz : i.size = l.esz := by
                  rcases Bool.or_eq_true _ _ |>.mp h3 with q | q
                  · have := Nat.le_of_ble_eq_true q
                    have e1 : mv = UNK := by omega
                    rw [e1] at u1
                    omega
                  · have := Nat.eq_of_beq_eq_true q; omega
                have hne : Nat.beq mv UNK = false := by
                  cases hb : Nat.beq mv UNK with
                  | false => rfl
                  | true => have := Nat.eq_of_beq_eq_true hb; rw [this] at u1; omega
                simp only [cond_true, hne, cond_false]
                cases hl0 : Nat.beq lv 0 with
                | true =>
                  have := Nat.eq_of_beq_eq_true hl0
                  subst this
                  simp only [cond_true, Nat.zero_mul, Option.map_some, addr_add, Nat.add_zero, ite_self, Nat.sub_zero]
                  exact VRel.slice ho (fun q => absurd q (by omega)) (fun _ => ⟨u1, u2, u3, hhm⟩)
                | false =>
                  simp only [cond_false]
                  cases hlt : Nat.blt lv (capOf len mv) with
                  | true =>
                    have hlt' : lv < capOf len mv := Nat.le_of_ble_eq_true hlt
                    have hcm : capOf len mv ≤ mv' := by
                      unfold capOf
                      rw [hu2]
                      simp only [cond_true]
                      have := u1.2
                      cases Nat.ble len (lbOf mv) <;> simp only [cond_true, cond_false] <;> omega
                    have hml : mv' ≠ lv := by omega
                    simp only [cond_true, if_neg hml, Option.map_some, addr_add]
                    rw [show l.base + off + lv * i.size = l.base + (off + lv * i.size) from by omega]
                    have hk : (bif Nat.ble lv (lbOf mv) then lv else lbOf mv) ≤ lbOf mv := by
                      cases hq : Nat.ble lv (lbOf mv) with
                      | true => exact Nat.le_of_ble_eq_true hq
                      | false => exact Nat.le_refl _
                    obtain ⟨v1, v2, v3⟩ := unk_sub hge hk
                    refine VRel.slice ho (fun q => absurd q (by omega)) (fun _ => ⟨⟨v2.trans u1.1, ?_⟩, u2, ?_, by omega⟩)
                    · rw [v3]
                      have := u1.2
                      cases hq : Nat.ble lv (lbOf mv) with
                      | true => simp only [cond_true]; omega
                      | false => simp only [cond_false]; omega
                    · rw [hsz]
                      have e3 : (mv' - lv) * l.esz + lv * l.esz = mv' * l.esz := by rw [← Nat.add_mul]; congr 1; omega
                      omega
                  | false =>
                    have hge2 : capOf len mv ≤ lv := by
                      rcases Nat.lt_or_ge lv (capOf len mv) with q | q
                      · have := ble_true q; unfold Nat.blt at hlt; rw [this] at hlt; cases hlt
                      · exact q
                    have e4 : hv - lv = 0 := by omega
                    simp only [cond_false, e4]
                    split
                    · exact .semp
                    · simp only [Option.map_some, addr_add]; exact .semp
  | semp =>
    rename_i a a' cap'
    cases d <;> try (cases hp; done)
    rename_i e
    simp only at hp
    cases hi2 : C.info e with
    | none => rw [hi2] at hp; cases hp
    | some i =>
      rw [hi2] at hp
      have hi3 := hC.info hi2
      simp only [Option.bind_some] at hp
      cases hm : optCap 0 UNK mx with
      | none => rw [hm] at hp; cases hp
      | some mv =>
        rw [hm] at hp
        simp only [Option.bind_some] at hp
        cases hh : optN 0 hi with
        | none => rw [hh] at hp; cases hp
        | some hv =>
          rw [hh] at hp
          simp only [Option.bind_some] at hp
          cases hl : optN 0 lo with
          | none => rw [hl] at hp; cases hp
          | some lv =>
            rw [hl] at hp
            simp only [Option.bind_some] at hp
            cases hc : (Nat.ble lv hv && Nat.ble hv (capOf 0 mv) && (Nat.ble mv UNK || Nat.beq (szOf mv) i.size) && (mx.isNone || hi.isSome)) with
            | false => rw [hc] at hp; cases hp
            | true =>
              rw [hc] at hp
              rw [Bool.and_eq_true, Bool.and_eq_true, Bool.and_eq_true] at hc
              have h1 := Nat.le_of_ble_eq_true hc.1.1.1
              have h2 := Nat.le_of_ble_eq_true hc.1.1.2
              simp only [cond_true, Option.some.injEq] at hp
              subst hp
              have hq : mx'.isNone = true ∨ hi'.isSome = true := by
                rcases Bool.or_eq_true _ _ |>.mp hc.2 with q | q
                · left; rw [hmxn (Option.isNone_iff_eq_none.1 q)]; rfl
                · right
                  obtain ⟨u, hu2⟩ := Option.isSome_iff_exists.1 q
                  obtain ⟨u', h5, _⟩ := hhi u hu2
                  rw [h5]; rfl
              cases mx with
              | some u =>
                -- an exact capacity of nothing
                simp only [optCap] at hm
                cases hn : asN u with
                | none => rw [hn] at hm; cases hm
                | some n =>
                  rw [hn] at hm
                  simp only [Option.bind_some] at hm
                  rw [Nat.beq_refl, Bool.not_true, Bool.and_false] at hm
                  cases hm
              | none =>
                simp only [optCap, Option.some.injEq] at hm
                subst hm
                unfold capOf at h2
                rw [ble_true (Nat.le_refl _)] at h2
                have e0 : lbOf UNK = 0 := by decide
                rw [e0] at h2
                simp only [cond_true, Nat.ble_self_eq_true] at h2
                have hv0 : hv = 0 := by omega
                subst hv0
                have lv0 : lv = 0 := by omega
                subst lv0
                have hr := slice_run hu' hi3 (a := some a') (len := 0) (cap := cap') (bound_of hlo hlon hl) (bound_of hhi hhin hh) (.inl ⟨hmxn rfl, rfl⟩) hq (Nat.le_refl _) (Nat.zero_le _) (Nat.le_refl _) w
                refine ⟨_, w, hr, .same h ?_⟩
                unfold sliceIn
                rw [ble_true (Nat.le_refl _)]
                simp only [Nat.beq_refl, cond_true]
                split
                · exact .semp
                · obtain ⟨b, of, sp⟩ := a'
                  exact .semp
  | _ => cases d <;> cases hp

end
end Go.Ev
