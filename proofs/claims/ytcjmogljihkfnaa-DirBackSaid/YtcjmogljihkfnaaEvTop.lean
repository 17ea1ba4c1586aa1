/- A part of an evaluator of the model and of the proof that what it answers the model does; no condition. -/
import Derived.Test.YtcjmogljihkfnaaEvTab
import Derived.ProofKit
import Derived.ChangeSame
import Derived.WideKeyArgs
set_option linter.unusedVariables false
set_option linter.unusedSimpArgs false
namespace Go.Ev
set_option linter.unusedSectionVars false
variable [Atoms]
open Go.RowKit (Below) 
open Go.ChangeShapes Go.WideShapes

section
variable {H : Type} {enc : TypeId × Value → H} {P : Program}

theorem trodAll_stays (hl : laidOutB P = true) {W W' : World} {sp' : Nat → Bool} : ∀ {ts : List TypeId} {vs : List Value} {ds : List (DataW H)} {ps : List MemPlace}, (∀ t ∈ ts, P.readableRec t = true ∧ t < P.types.size) →
    DataW.TrodAll enc P W 0 (fun _ => true) true ts vs ds ps → (∀ p ∈ ps, W.sameAt W' p) → (∀ p ∈ ps, sp' p.block = true) → DataW.TrodAll enc P W' 0 sp' true ts vs ds ps
  | [], _, _, _, _, h, _, _ => by
    obtain ⟨rfl, rfl, rfl⟩ := trodAll_nil h
    exact trodAll_mk0
  | t :: ts, _, _, _, hr, h, hs, hk => by
    obtain ⟨v, vs', d, ds', p, q, rfl, rfl, rfl, h1, h2⟩ := trodAll_cons h
    obtain ⟨r1, r2⟩ := hr t List.mem_cons_self
    exact ⟨p, q, WideElems.Trod_stays hl r1 r2 h1 (fun x hx => hs x (List.mem_append_left _ hx)) (fun x hx => hk x (List.mem_append_left _ hx)),
      trodAll_stays hl (fun t ht => hr t (List.mem_cons_of_mem _ ht)) h2 (fun x hx => hs x (List.mem_append_right _ hx)) (fun x hx => hk x (List.mem_append_right _ hx)), rfl⟩

/-- a law that answers true and leaves what was there as it was -/
theorem post_true {f : Func} {s : ChangeSpec} {apart fresh handsOn again : Bool} {W W' : World} {args : Array Value} {ds gs : List (DataW H)} {before : List MemPlace} {tb : TypeId}
    (hl : laidOutB P = true) (hrd : ∀ t ∈ f.params.toList, P.readableRec t = true ∧ t < P.types.size) (hr : f.resultTypes = #[tb]) (htb : P.underlying tb = some .bool) (hv : s.vars = [])
    (hs : s.fn H (ds ++ gs) = { results := [.lit (.bool true)], args := ds })
    (hW : DataW.Whole enc P f.params.toList s.vars apart W args.toList ds gs before) (hb : Below W.heap.size W W') :
    s.post enc P f apart fresh handsOn again W args (.bool true) W' := by
  have hlt : ∀ p ∈ before, p.block < W.heap.size := fun p hp => hW.lt p hp
  have hW0 := hW
  obtain ⟨p, q, h1, h2, rfl, h3, h4⟩ := hW0
  rw [hv] at h2
  obtain ⟨rfl, rfl⟩ := trodVars_none h2
  have hall : ∀ sp' : Nat → Bool, (∀ x ∈ p, sp' x.block = true) → DataW.TrodAll enc P W' 0 sp' true f.params.toList args.toList ds p := fun sp' hsp =>
    trodAll_stays hl hrd h1 (fun x hx => hb.same (hlt x (List.mem_append_left _ hx))) hsp
  have hres : ∀ (b : Nat) (sp : Nat → Bool) (hd : Bool), DataW.TrodAll enc P W' b sp hd f.resultTypes.toList ((Value.bool true).resultList f.resultTypes.size) (s.fn H (ds ++ [])).results [] := by
    intro b sp hd
    rw [hs, hr]
    exact trodAll_mk1 (Go.RowKit.shut_bool htb true)
  have hvars : ∀ sp : Nat → Bool, DataW.TrodVars enc P W' sp s.vars (s.fn H (ds ++ [])).vars [] := by
    intro sp
    rw [hs, hv]
    rfl
  refine ⟨ds, [], p ++ [], [], p, [], hW, hres _ _ _, ?_, hvars _, hb.frame _, fun _ => ⟨Go.RowKit.ok_one hr rfl (Go.RowKit.okWide_bool_mk htb true), ?_⟩⟩
  · rw [hs]
    exact hall _ fun x hx => by simpa using hlt x (List.mem_append_left _ hx)
  · refine ⟨_, _, ([] ++ p) ++ [], ⟨[] ++ p, [], trodAll_append (hall _ fun _ _ => rfl) (hres _ _ _), hvars _, rfl, ?_, ?_⟩, ?_⟩
    · intro b off hp
      have hp' : MemPlace.cell b off ∈ p := by simpa using hp
      rw [hb.frozen (p := ⟨b, off, Option.none⟩) (hlt _ (List.mem_append_left _ hp'))]
      exact h3 b off (List.mem_append_left _ hp')
    · intro ha
      simpa using h4 ha
    · intro x hx _
      simpa using hx

theorem Rel.start (W : World) : Rel W.heap.size W (fun _ => none) ⟨.leaf, 0⟩ W where
  below := Below.refl _ _
  base := Nat.le_refl _
  dom o l h := by cases h
  obj o l h := by cases h
  sep o1 o2 l1 l2 _ h := by cases h

/-- a call that the evaluator answers with true -/
theorem Calls.of_true {W : World} {f : FuncId} {args args' : List Value} {g : List Value → Mem → Ret} (hc : CallOk P W.heap.size W f g) {μ : Mu} {m m' : Mem} (hr : Rel W.heap.size W μ m W) (ha : LRel μ args args')
    (hg : g args m = some (.bool true, m')) (hne : ∀ v w, (callFunc f ⟨args'⟩).run P W ≠ .ok (.value v) w) : Calls P f ⟨args'⟩ W fun e W' => e = .returned (.bool true) ∧ Below W.heap.size W W' := by
  rcases hc args m _ m' hg μ W args' hr ha with ⟨_, h2⟩ | ⟨v', w', h1, _⟩
  · refine h2.mono fun e W' ⟨v', he, μ', h3, h4, _⟩ => ?_
    cases h3
    exact ⟨he, h4.below⟩
  · exact absurd h1 (hne _ _)

end
end Go.Ev
