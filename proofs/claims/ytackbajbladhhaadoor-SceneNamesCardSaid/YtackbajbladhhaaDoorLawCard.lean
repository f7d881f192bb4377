/-
  The frame of a law's proof where its row lists one package-level variable with what it holds: from the walk (which may use what is laid) to the given row.
-/
import Derived.Test.YtackbajbladhhaaDoorLawKit
import Derived.Test.YtackbajbladhhaaDoorTie
import Derived.LaidMore
import Derived.Stop.Joined
namespace Go.Proofs.YtackbajbladhhaaDoor
open Go.RowKit Go.ChangeShapes Go.WideShapes Go.ChangeAt
set_option linter.unusedVariables false

/-- What a law's walk owes, where variables are laid. -/
def LawWalkL (L : List (String × DataW Unit)) (fid : FuncId) (fn : Func) : Prop :=
  ∀ (H : Type) (enc : TypeId × Value → H) (W : World) (base : Nat) (args : Array Value) (ds : List (DataW H)) (ps : List MemPlace),
    (∀ (j : Nat) t v, fn.params[j]? = some t → args[j]? = some v → Value.okWide Tryd.prog W .any base t v) →
    DataW.TrodAll enc Tryd.prog W 0 (fun _ => true) true fn.params.toList args.toList ds ps →
    (∀ x ∈ ps, x.block < W.heap.size) →
    (DataW.weightsEach Tryd.prog fn.params.toList ds).all (· ≤ reachBytes) = true → laidMetH Tryd.prog L W →
    Calls Tryd.prog fid args W fun e W' => e = .returned (.bool true) ∧ Later W W'

set_option maxRecDepth 100000 in
theorem law_lifted_laid {L : List (String × DataW Unit)} {fid : FuncId} {fn : Func} {spec : ChangeSpec} (os : Os) (started : os.Started) (H : Type) (enc : TypeId × Value → H)
    (hfn : Tryd.prog.funcs[fid]? = some fn) (hni : Tryd.prog.inits.idxOf? fid = none) (hv : spec.vars = []) (hfnspec : ∀ (H : Type) (ds : List (DataW H)), ds.length = fn.params.toList.length → spec.fn H ds = { results := [.lit (.bool true)], args := ds })
    (hres : fn.resultTypes = #[4]) (hread : ∀ t ∈ fn.params.toList, Tryd.prog.readableRec t = true ∧ t < Tryd.prog.types.size)
    (wit : ∃ (w : World) (tape : Tape) (i : Input), w.os = os ∧ (w.forCall tape i).Shaped Tryd.prog ∧ i.vars = [] ∧ Input.okWide Tryd.prog (w.forCall tape i) .any w.heap.size fid i ∧
      ((spec.pre enc Tryd.prog fn [] false (w.forCall tape i).memory i.args ∧ laidMetH Tryd.prog L (w.forCall tape i).memory) ∧ sizedMet enc Tryd.prog fn (OpenSpec.ofChange spec) false (w.forCall tape i).memory i.args) ∧ ({} : Assume).holds Tryd.prog (lone (Frame.enter Tryd.prog fid i.args .normal) [] (w.forCall tape i)))
    (walk : LawWalkL L fid fn) :
    ReturnsInHanded {} Tryd.checked os fid .any (fun w args => (spec.pre enc Tryd.prog fn [] false w args ∧ laidMetH Tryd.prog L w) ∧ sizedMet enc Tryd.prog fn (OpenSpec.ofChange spec) false w args) (spec.post enc Tryd.prog fn false true false false) := by
  refine returnsInHanded_of_change_and (C := Tryd.checked) (X := fun w _ => laidMetH Tryd.prog L w) (fun _ _ _ hh h => h.of_heap hh) own started hni hfn wit ?_
  intro W base args ds gs before hval hW hcnd hsz hL hholds
  have hW' := hW
  obtain ⟨p, q, hA, hV, hbe, hfz, hnd⟩ := hW
  rw [hv] at hV
  obtain ⟨rfl, rfl⟩ := trodVars_none hV
  have hlt : ∀ x ∈ before, x.block < W.heap.size := fun x hx => hW'.lt x hx
  have hlp : ∀ x ∈ p, x.block < W.heap.size := fun x hx => hlt x (by rw [hbe]; simp [hx])
  have hsz' : (DataW.weightsEach Tryd.prog fn.params.toList ds).all (· ≤ reachBytes) = true := by
    have e1 : spec.plain.varTypes Tryd.prog = [] := by
      unfold DataSpec.varTypes
      have e2 : spec.plain.vars = [] := hv
      rw [e2]; rfl
    have h0 : (DataW.weightsEach Tryd.prog (fn.params.toList ++ spec.plain.varTypes Tryd.prog) (ds ++ [])).all (· ≤ reachBytes) = true := hsz
    rw [e1, List.append_nil, List.append_nil] at h0
    exact h0
  refine (walk H enc W base args ds p hval hA hlp hsz' hL).mono fun e W' ⟨he, hg⟩ => ⟨_, he, ?_⟩
  have hfe := hfnspec H ds (trodAll_length hA)
  refine ⟨ds, [], before, [], p, [], hW', ?_, ?_, ?_, hg.frame _, fun h => by cases h⟩
  · rw [List.append_nil, hfe, hres]
    exact trodAll_mk1 (shut_bool Tryd.underlying4 true)
  · rw [List.append_nil, hfe]
    exact trodAll_later hg hread hlp hA
  · rw [hv]
    have : (spec.fn H (ds ++ [])).vars = [] := by rw [List.append_nil, hfe]
    rw [this]
    rfl
end Go.Proofs.YtackbajbladhhaaDoor
