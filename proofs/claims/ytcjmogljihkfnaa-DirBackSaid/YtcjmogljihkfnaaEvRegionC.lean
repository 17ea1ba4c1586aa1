/- A part of an evaluator of the model and of the proof that what it answers the model does; no condition. -/
import Derived.Test.YtcjmogljihkfnaaEvRegionB
set_option linter.unusedVariables false
set_option linter.unusedSimpArgs false
namespace Go.Ev
set_option linter.unusedSectionVars false
variable [Atoms]
open Go.RowKit (Below)

section
variable {B : Nat} {w0 : World} {μ : Mu} {m : Mem} {w : World} {P : Program} {C : Ctx} {ops : Array Oper} {bef : Nat → Nat} {nt : Nat}

theorem Wait.drop {n0 : Nat} {s : Slots} {pend pend' : List Nat} {ph : Nat → Option Nat} (h : Wait C ops bef μ n0 s m pend ph) (hs : ∀ i ∈ pend', i ∈ pend) {μ' : Mu}
    (hμ : ∀ i ∈ pend', ∀ id, ph i = some id → μ id = none → μ' id = none) : Wait C ops bef μ' n0 s m pend' ph where
  each i hi := (h.each i (hs i hi)).move (fun _ _ => ⟨fun _ _ => rfl, fun _ _ => rfl⟩) fun id h1 h2 h3 _ => ⟨rfl, hμ i hi id h1 h3, h2⟩
  pw i hi q hq := h.pw i (hs i hi) q (hs q hq)
  ids i hi q hq := h.ids i (hs i hi) q (hs q hq)

theorem Pend.unnamed {n0 : Nat} {s : Slots} {i : Nat} {ph : Option Nat} (h : Pend C ops μ n0 s m i ph) {id : Nat} (hid : ph = some id) : μ id = none ∧ n0 ≤ id := by
  obtain ⟨o, d, _, _, _, h⟩ := h
  rcases h with ⟨_, _, h⟩ | ⟨_, _, _, h⟩ | ⟨_, _, h⟩ | ⟨_, _, id', m1, m1', h1, _, _, _, h0, _, h2, _⟩
  · rw [h] at hid; cases hid
  · rw [h] at hid; cases hid
  · rw [h] at hid; cases hid
  · rw [h1] at hid; cases hid; exact ⟨h2, h0⟩

/-- the writer does not touch what waits -/
theorem Wait.wrote {n0 : Nat} {s s' : Slots} {m' : Mem} {μ' : Mu} {pend : List Nat} {ph : Nat → Option Nat} (h : Wait C ops bef μ n0 s m pend ph)
    (hs : ∀ i ∈ pend, ∀ o, ops[i]? = some o → (∀ t ∈ o.looksAt ops, s'.get t = s.get t) ∧ ∀ d, o.dst = some d → s'.get d = s.get d) (hx : Ext μ m μ' m') : Wait C ops bef μ' n0 s' m' pend ph where
  each i hi := (h.each i hi).move (hs i hi) fun id h1 h2 h3 h4 => ⟨hx.frame id h2 h3 h4, (hx.mu id h2).trans h3, Nat.lt_of_lt_of_le h2 hx.next⟩
  pw := h.pw
  ids := h.ids

theorem stepOp_slots {call : CallF} {o : Oper} {s s' : Slots} {m' : Mem} (h : stepOp C call ops o s m = some (s', m')) : ∀ t, o.dst ≠ some t → s'.get t = s.get t := by
  intro t ht
  have put : ∀ v, (s.put o.dst v).get t = s.get t := fun v => by
    cases hd : o.dst with
    | none => rfl
    | some d =>
      simp only [Slots.put, Slots.get_set]
      rw [if_neg]
      rintro rfl
      exact ht hd
  unfold stepOp at h
  cases hw : wanted ops s o with
  | none => rw [hw] at h; cases h
  | some b =>
    rw [hw] at h
    simp only [Option.bind_some] at h
    cases b with
    | false =>
      simp only [cond_false, Option.some.injEq, Prod.mk.injEq] at h
      rw [← h.1]; exact put _
    | true =>
      simp only [cond_true] at h
      obtain ⟨r, hr, h⟩ := Option.bind_eq_some_iff.1 h
      obtain ⟨v, m2⟩ := r
      simp only [Option.some.injEq, Prod.mk.injEq] at h
      rw [← h.1]; exact put _

theorem ef_spec {i e : Nat} (h : ef ops i e = true) : ∀ oi oe, ops[i]? = some oi → ops[e]? = some oe → ∃ di, oi.dst = some di ∧ di ∉ oe.looksAt ops ∧ oe.dst ≠ some di ∧ ∀ de, oe.dst = some de → de ∉ oi.looksAt ops := by
  intro oi oe hi he
  unfold ef at h
  rw [hi, he] at h
  simp only at h
  cases hdi : oi.dst with
  | none => rw [hdi] at h; cases h
  | some di =>
    rw [hdi] at h
    simp only [Bool.and_eq_true, Bool.not_eq_true'] at h
    obtain ⟨h1, h2⟩ := h
    refine ⟨di, rfl, (fun q => by rw [inL_iff.2 q] at h1; cases h1), ?_, ?_⟩
    · intro q
      rw [q] at h2
      simp at h2
    · intro de hde q
      rw [hde] at h2
      simp only [Bool.and_eq_true, Bool.not_eq_true'] at h2
      rw [inL_iff.2 q] at h2
      cases h2.2

theorem okReads_spec {M : Nat} {ag D : List Nat} (h : okReads C ops M ag D = true) {s : Slots} (ha : again C ops s m ag = true) {i : Nat} (hi : i ∈ D) (hM : bit M i = false) : ReadOk C ops s m i := by
  have := List.all_eq_true.1 h i hi
  rw [hM] at this
  simp only [Bool.false_or, Bool.or_eq_true, Bool.not_eq_true'] at this
  rcases this with h1 | h1
  · intro o d ho hd hc hw
    simp only [isRead, ho, hc] at h1
    cases h1
  · exact again_ok ha (inL_iff.1 h1)

theorem getD_true_set {listed : Array Bool} {i j : Nat} (hi : i < listed.size) : (listed.setIfInBounds i true).getD j false = if j = i then true else listed.getD j false := by
  by_cases h : j = i
  · subst h; rw [if_pos rfl]; simp [Array.getD_eq_getD_getElem?, hi]
  · rw [if_neg h]; simp [Array.getD_eq_getD_getElem?, Array.getElem?_setIfInBounds_ne (Ne.symm h)]

theorem getD_tf {listed : Array Bool} {i : Nat} (hi : i < listed.size) : listed.getD i true = listed.getD i false := by
  simp [Array.getD_eq_getD_getElem?, hi]

/-- any order of a drawn region does what the plan does -/
theorem any_sound (hC : C.Ok P) (hE : C.EqOk P) {call : CallF} (hcall : ∀ f, CallOk P B w0 f (call f)) (hok : ∀ (i : Nat) (o : Oper), ops[i]? = some o → opOk nt o = true)
    (hbef : ∀ i o, ops[i]? = some o → ∀ j, bit (bef i) j = true → ∃ e ∈ o.after, Region.binds .any e = true ∧ (j = e.on ∨ bit (bef e.on) j = true))
    (hlt : ∀ i o, ops[i]? = some o → ∀ e ∈ o.after, Region.binds .any e = true → e.on < i) {Q : Exit → Act → World → Prop} {μ0 : Mu} {m0 : Mem} {sf : Slots} {mf : Mem}
    (hQ : ∀ a' w' μ', SRel μ' nt sf a' → Rel B w0 μ' mf w' → Ext μ0 m0 μ' mf → Q .normal a' w') :
    ∀ (fuel : Nat) {rest : List Phase} {D pend : List Nat} {ph : Nat → Option Nat} {s : Slots} {m : Mem} {μ : Mu} {listed : Array Bool} {a : Act} {w : World},
      listed.size = ops.size → (∀ j, listed.getD j false = true → ∀ q, bit (bef j) q = true → listed.getD q false = true) → (∀ i, (i < ops.size ∧ listed.getD i false = false) ↔ (i ∈ pend ∨ i ∈ rem rest)) →
      (pend ++ rem rest).Nodup → pend.length + (rem rest).length = fuel → okRest C ops bef D rest = true → (∀ i ∈ pend, i ∈ D) → Rel B w0 μ m w → Ext μ0 m0 μ m → SRelX μ nt s a (dsts ops pend) →
      Wait C ops bef μ m0.next s m pend ph → (∀ i ∈ pend, ReadOk C ops s m i) → runRest C call ops rest s m = some (sf, mf) → wpAny P .any ops Q fuel listed a w := by
  intro fuel
  induction fuel with
  | zero =>
    intro rest D pend ph s m μ listed a w hsz hcl hU hnd hlen hor hD hr hx hs hw hro hrun
    have hp : pend = [] := List.eq_nil_of_length_eq_zero (by omega)
    have hrr : rest = [] := by
      cases rest with
      | nil => rfl
      | cons p r => simp [rem] at hlen
    subst hp hrr
    refine ⟨?_, ?_⟩
    · rw [List.eq_nil_iff_forall_not_mem]
      intro i hi
      obtain ⟨h1, o, ho, _⟩ := mem_ready.1 hi
      have hl : i < ops.size := (Array.getElem?_eq_some_iff.1 ho).1
      rw [getD_tf (by omega)] at h1
      rcases (hU i).1 ⟨hl, h1⟩ with q | q <;> cases q
    · simp only [runRest, Option.some.injEq, Prod.mk.injEq] at hrun
      obtain ⟨rfl, rfl⟩ := hrun
      exact hQ a w μ (hs.all fun t ⟨i, hi, _⟩ => by cases hi) hr hx
  | succ fuel ih =>
    intro rest D pend ph s m μ listed a w hsz hcl hU hnd hlen hor hD hr hx hs hw hro hrun
    refine ⟨fun hnil => ?_, fun i hi => ?_⟩
    · -- the smallest that is not listed is ready
      exfalso
      have hex : ∃ i, i < ops.size ∧ listed.getD i false = false := by
        cases pend with
        | cons i r => exact ⟨i, (hU i).2 (.inl List.mem_cons_self)⟩
        | nil =>
          cases rest with
          | nil => simp [rem] at hlen
          | cons p r => exact ⟨p.eff, (hU p.eff).2 (.inr (by simp [rem]))⟩
      have small : ∀ n i, i < n → (i < ops.size ∧ listed.getD i false = false) → ∃ j, j ∈ Region.ready .any ops listed := by
        intro n
        induction n with
        | zero => intro i hi; omega
        | succ n ihn =>
          intro i hi hun
          have ho : ops[i]? = some ops[i] := Array.getElem?_eq_getElem hun.1
          by_cases hall : ∀ e ∈ ops[i].after, Region.binds .any e = true → listed.getD e.on false = true
          · exact ⟨i, mem_ready.2 ⟨by rw [getD_tf (by omega)]; exact hun.2, _, ho, hall⟩⟩
          · simp only [Classical.not_forall] at hall
            obtain ⟨e, he, hb, hf⟩ := hall
            have hlte := hlt i _ ho e he hb
            exact ihn e.on (by omega) ⟨by omega, by simpa using hf⟩
      obtain ⟨i, hi⟩ := hex
      obtain ⟨j, hj⟩ := small (i + 1) i (by omega) hi
      rw [hnil] at hj
      cases hj
    · obtain ⟨h1, o, ho, hall⟩ := mem_ready.1 hi
      have hlo : i < ops.size := (Array.getElem?_eq_some_iff.1 ho).1
      have hil : i < listed.size := by omega
      rw [getD_tf hil] at h1
      have hbl : ∀ q, bit (bef i) q = true → listed.getD q false = true := by
        intro q hq
        obtain ⟨e, he, hb, hc⟩ := hbef i o ho q hq
        rcases hc with rfl | hc
        · exact hall e he hb
        · exact hcl _ (hall e he hb) q hc
      have hwaits : ∀ q, q ∈ pend ∨ q ∈ rem rest → bit (bef i) q = false := by
        intro q hq
        have := ((hU q).2 hq).2
        cases hb : bit (bef i) q with
        | false => rfl
        | true => rw [hbl q hb] at this; cases this
      have hcl' : ∀ j, (listed.setIfInBounds i true).getD j false = true → ∀ q, bit (bef j) q = true → (listed.setIfInBounds i true).getD q false = true := by
        intro j hj q hq
        rw [getD_true_set hil] at hj ⊢
        by_cases hqi : q = i
        · rw [if_pos hqi]
        · rw [if_neg hqi]
          by_cases hji : j = i
          · subst hji; exact hbl q hq
          · rw [if_neg hji] at hj; exact hcl j hj q hq
      have hset : ∀ j, (j < ops.size ∧ (listed.setIfInBounds i true).getD j false = false) ↔ (j ≠ i ∧ (j ∈ pend ∨ j ∈ rem rest)) := by
        intro j
        rw [← hU j, getD_true_set hil]
        by_cases hji : j = i
        · simp [hji]
        · simp [hji]
      have hsz' : (listed.setIfInBounds i true).size = ops.size := by simpa using hsz
      obtain ⟨nd1, nd2, nd3⟩ := List.nodup_append.1 hnd
      rcases (hU i).1 ⟨hlo, h1⟩ with hip | hir
      · -- what waited
        have hE1 : ∀ j, j ∈ pend.erase i ↔ j ≠ i ∧ j ∈ pend := fun j => nd1.mem_erase_iff
        refine Pend.leave hC hE hcall (hw.each i hip) (hro i hip) hr (fun o ho => hok i o ho) hs ?_ ?_
        · rintro o2 ho2 t ht ⟨j, hj, oj, hoj, hdj⟩
          by_cases hji : j = i
          · subst hji
            obtain ⟨o3, d3, k1, k2, k3, _⟩ := hw.each j hip
            rw [ho2] at k1 hoj
            cases k1; cases hoj
            rw [hdj] at k2
            cases k2
            exact k3 ht
          · have := (hw.pw j hj i hip hji oj o2 t hoj ho2 hdj).2 ht
            rw [hwaits j (.inl hj)] at this
            cases this
        · intro d a' w' μ' hd hsY hr' hle hsame
          have hμ : ∀ k ∈ pend.erase i, ∀ id, ph k = some id → μ id = none → μ' id = none := by
            intro k hk id hid hn
            obtain ⟨hk1, hk2⟩ := (hE1 k).1 hk
            rw [hsame id (.inr fun e => hw.ids k hk2 i hip hk1 id hid e)]
            exact hn
          refine ih (rest := rest) (D := D) (pend := pend.erase i) (ph := ph) (s := s) (m := m) (μ := μ') hsz' hcl' ?_ ?_ ?_ hor ?_ hr' ?_ ?_ (hw.drop (fun k hk => ((hE1 k).1 hk).2) hμ) (fun k hk => hro k ((hE1 k).1 hk).2) hrun
          · intro j
            rw [hset j, hE1 j]
            constructor
            · rintro ⟨n1, n2 | n2⟩
              · exact .inl ⟨n1, n2⟩
              · exact .inr n2
            · rintro (⟨n1, n2⟩ | n2)
              · exact ⟨n1, .inl n2⟩
              · exact ⟨fun e => nd3 i hip j n2 e.symm, .inr n2⟩
          · exact List.nodup_append.2 ⟨nd1.erase i, nd2, fun x hx y hy => nd3 x ((hE1 x).1 hx).2 y hy⟩
          · rw [List.length_erase_of_mem hip]
            have : 0 < pend.length := List.length_pos_of_mem hip
            omega
          · exact fun k hk => hD k ((hE1 k).1 hk).2
          · refine ⟨hx.next, fun k hk => ?_, hx.frame, fun k l hk => hle _ _ (hx.grow k l hk)⟩
            rw [hsame k ?_]
            · exact hx.mu k hk
            · by_cases hkp : ph i = some k
              · have := ((hw.each i hip).unnamed hkp).2
                omega
              · exact .inr hkp
          · refine hsY _ ?_
            rintro t ⟨j, hj, oj, hoj, hdj⟩
            by_cases hji : j = i
            · subst hji
              obtain ⟨o2, ho2, hd2⟩ := hd
              rw [hoj] at ho2
              cases ho2
              rw [hdj] at hd2
              exact .inl (Option.some.inj hd2)
            · exact .inr ⟨j, (hE1 j).2 ⟨hji, hj⟩, oj, hoj, hdj⟩
      · -- the next that may write
        cases rest with
        | nil => cases hir
        | cons p r =>
          simp only [okRest, Bool.and_eq_true] at hor
          obtain ⟨⟨⟨⟨or1, or2⟩, or3⟩, or4⟩, or5⟩ := hor
          have hie : i = p.eff := by
            rcases List.mem_cons.1 hir with h | h
            · exact h
            · have := List.all_eq_true.1 or4 i h
              rw [hwaits p.eff (.inr (by simp [rem]))] at this
              cases this
          subst hie
          simp only [runRest] at hrun
          obtain ⟨sm1, hrun1, hrun⟩ := Option.bind_eq_some_iff.1 hrun
          obtain ⟨s1, m1⟩ := sm1
          obtain ⟨sm2, hrun2, hrun3⟩ := Option.bind_eq_some_iff.1 hrun
          obtain ⟨s2, m2⟩ := sm2
          clear hrun
          simp only at hrun3 hrun2
          cases hag : again C ops s2 m2 p.again with
          | false => rw [hag] at hrun3; cases hrun3
          | true =>
            rw [hag] at hrun3
            simp only [cond_true] at hrun3
            simp only [runIdx, ho] at hrun1
            obtain ⟨sm3, hst, hrun1'⟩ := Option.bind_eq_some_iff.1 hrun1
            obtain ⟨s3, m3⟩ := sm3
            simp only [Option.some.injEq, Prod.mk.injEq] at hrun1'
            obtain ⟨rfl, rfl⟩ := hrun1'
            have hef : ∀ k ∈ pend, ef ops k p.eff = true := by
              intro k hk
              have := List.all_eq_true.1 or1 k (hD k hk)
              rw [hwaits k (.inl hk)] at this
              simpa using this
            refine step_wpX hC hE hcall hr hs ho (hok _ o ho) ?_ hst ?_
            · rintro t ht ⟨k, hk, ok, hok2, hdk⟩
              obtain ⟨di, e1, e2, _⟩ := ef_spec (hef k hk) ok o hok2 ho
              rw [hdk] at e1
              cases e1
              exact e2 ht
            · intro a' w' μ' hs' hr' hx'
              have hw' : Wait C ops bef μ' m0.next s3 m3 pend ph := hw.wrote (fun k hk ok hok2 => by
                obtain ⟨di, e1, e2, e3, e4⟩ := ef_spec (hef k hk) ok o hok2 ho
                refine ⟨fun t ht => stepOp_slots hst t fun e => e4 t e ht, fun d hd => stepOp_slots hst d fun e => ?_⟩
                rw [e1] at hd
                cases hd
                exact e3 e) hx'
              have hrem : ∀ k, k ∈ p.ops → k ∈ rem (p :: r) := fun k hk => by simp [rem, hk]
              have nd2' : (p.ops ++ rem r).Nodup := by
                simp only [rem] at nd2
                exact (List.nodup_cons.1 nd2).2
              have npe : p.eff ∉ p.ops ++ rem r := by
                simp only [rem] at nd2
                exact (List.nodup_cons.1 nd2).1
              obtain ⟨nq1, nq2, nq3⟩ := List.nodup_append.1 nd2'
              obtain ⟨ph', q1, q2, q3, q4⟩ := floats_run p.ops or2 hD (fun k hk => hwaits k (hk.imp id (hrem k))) nq1 (fun k hk hc => nd3 k hc k (hrem k hk) rfl) hrun2 hr' (Nat.le_trans hx.next hx'.next) hs' hw'
              refine ih (rest := r) (D := p.ops.reverse ++ D) (pend := p.ops.reverse ++ pend) (ph := ph') (s := s2) (m := m2) (μ := μ') hsz' hcl' ?_ ?_ ?_ or5 ?_ q1 ((hx.trans hx').trans q4) q2 q3 ?_ hrun3
              · intro j
                rw [hset j]
                simp only [rem, List.mem_append, List.mem_reverse, List.mem_cons] at npe ⊢
                constructor
                · rintro ⟨n1, n2 | n2 | n2 | n2⟩
                  · exact .inl (.inr n2)
                  · exact absurd n2 n1
                  · exact .inl (.inl n2)
                  · exact .inr n2
                · rintro ((n2 | n2) | n2)
                  · exact ⟨fun e => npe (.inl (e ▸ n2)), .inr (.inr (.inl n2))⟩
                  · exact ⟨fun e => nd3 j n2 p.eff (by simp [rem]) e, .inl n2⟩
                  · exact ⟨fun e => npe (.inr (e ▸ n2)), .inr (.inr (.inr n2))⟩
              · refine List.nodup_append.2 ⟨List.nodup_append.2 ⟨(by unfold List.Nodup; rw [List.pairwise_reverse]; exact nq1.imp Ne.symm), nd1, ?_⟩, nq2, ?_⟩
                · intro x hx2 y hy e
                  subst e
                  exact nd3 x hy x (hrem x (List.mem_reverse.1 hx2)) rfl
                · intro x hx2 y hy e
                  subst e
                  rcases List.mem_append.1 hx2 with h | h
                  · exact nq3 x (List.mem_reverse.1 h) x hy rfl
                  · exact nd3 x h x (by simp [rem, hy]) rfl
              · simp only [rem, List.length_cons, List.length_append, List.length_reverse] at hlen ⊢
                omega
              · intro k hk
                rcases List.mem_append.1 hk with h | h
                · exact List.mem_append.2 (.inl h)
                · exact List.mem_append.2 (.inr (hD k h))
              · intro k hk
                refine okReads_spec or3 hag (i := k) ?_ (hwaits k ?_)
                · rcases List.mem_append.1 hk with h | h
                  · exact List.mem_append.2 (.inl h)
                  · exact List.mem_append.2 (.inr (hD k h))
                · rcases List.mem_append.1 hk with h | h
                  · exact .inr (hrem k (List.mem_reverse.1 h))
                  · exact .inl h

end
end Go.Ev
