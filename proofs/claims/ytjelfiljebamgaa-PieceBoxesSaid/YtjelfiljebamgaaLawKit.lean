/-
  The frame of a law's proof: from 'the call returns true, and what lay lies as it lay' to the given row. For any law that answers one bool and reads arguments that can be read.
-/
import Derived.Test.YtjelfiljebamgaaRows
import Derived.Test.YtjelfiljebamgaaKit
import Derived.ProofKit
import Derived.OpenShut
import Derived.SizedLaws
namespace Go.Proofs.Ytjelfiljebamgaa
open Go.RowKit Go.ChangeShapes Go.WideShapes Go.ChangeAt
set_option linter.unusedVariables false

theorem own : ownKnob Try.prog.godebug = none := by kernel_rfl
theorem laidOut : laidOutB Try.prog = true := by kernel_rfl

theorem trodAll_length {H : Type} {enc : TypeId × Value → H} {P : Program} {w : World} {base : Nat} {sp : Nat → Bool} {held : Bool} : ∀ {ts : List TypeId} {vs : List Value} {ds : List (DataW H)} {ps : List MemPlace},
    DataW.TrodAll enc P w base sp held ts vs ds ps → ds.length = ts.length
  | [], [], [], _, _ => rfl
  | _ :: _, _ :: _, _ :: _, _, ⟨_, _, _, h, _⟩ => by simp [trodAll_length h]

theorem trodAll_later {H : Type} {enc : TypeId × Value → H} {W W' : World} (hb : Below W.heap.size W W') : ∀ {ts : List TypeId} {vs : List Value} {ds : List (DataW H)} {ps : List MemPlace},
    (∀ t ∈ ts, Try.prog.readableRec t = true ∧ t < Try.prog.types.size) → (∀ x ∈ ps, x.block < W.heap.size) →
    DataW.TrodAll enc Try.prog W 0 (fun _ => true) true ts vs ds ps → DataW.TrodAll enc Try.prog W' 0 (fun b => decide (b < W.heap.size)) true ts vs ds ps
  | [], [], [], _, _, _, h => h
  | t :: ts, v :: vs, d :: ds, ps, hr, hl, h => by
    obtain ⟨p, q, h1, h2, e⟩ := h
    subst e
    exact ⟨p, q, Below.trod laidOut (hr t (by simp)).1 (hr t (by simp)).2 h1 hb (fun x hx => hl x (by simp [hx])), trodAll_later hb (fun u hu => hr u (by simp [hu])) (fun x hx => hl x (by simp [hx])) h2, rfl⟩

/-- What a law's walk owes. -/
def LawWalk (fid : FuncId) (fn : Func) : Prop :=
  ∀ (H : Type) (enc : TypeId × Value → H) (W : World) (base : Nat) (args : Array Value) (ds : List (DataW H)) (ps : List MemPlace),
    (∀ (j : Nat) t v, fn.params[j]? = some t → args[j]? = some v → Value.okWide Try.prog W .any base t v) →
    DataW.TrodAll enc Try.prog W 0 (fun _ => true) true fn.params.toList args.toList ds ps →
    (∀ x ∈ ps, x.block < W.heap.size) →
    (DataW.weightsEach Try.prog fn.params.toList ds).all (· ≤ reachBytes) = true →
    Calls Try.prog fid args W fun e W' => e = .returned (.bool true) ∧ Later W W'

set_option maxRecDepth 100000 in
theorem law_lifted {fid : FuncId} {fn : Func} {spec : ChangeSpec} (os : Os) (started : os.Started) (H : Type) (enc : TypeId × Value → H)
    (hfn : Try.prog.funcs[fid]? = some fn) (hni : Try.prog.inits.idxOf? fid = none) (hv : spec.vars = []) (hfnspec : ∀ (H : Type) (ds : List (DataW H)), ds.length = fn.params.toList.length → spec.fn H ds = { results := [.lit (.bool true)], args := ds })
    (hres : fn.resultTypes = #[4]) (hread : ∀ t ∈ fn.params.toList, Try.prog.readableRec t = true ∧ t < Try.prog.types.size)
    (wit : ∃ (w : World) (tape : Tape) (i : Input), w.os = os ∧ (w.forCall tape i).Shaped Try.prog ∧ i.vars = [] ∧ Input.okWide Try.prog (w.forCall tape i) .any w.heap.size fid i ∧
      spec.pre6 enc Try.prog fn [] false (w.forCall tape i).memory i.args ∧ ({} : Assume).holds Try.prog (lone (Frame.enter Try.prog fid i.args .normal) [] (w.forCall tape i)))
    (walk : LawWalk fid fn) :
    ReturnsInHanded {} Try.checked os fid .any (spec.pre6 enc Try.prog fn [] false) (spec.post enc Try.prog fn false true false false) := by
  refine returnsInHanded_of_change_sized (C := Try.checked) own started hni hfn wit ?_
  intro W base args ds gs before hval hW hcnd hsz hholds
  have hW' := hW
  obtain ⟨p, q, hA, hV, hbe, hfz, hnd⟩ := hW
  rw [hv] at hV
  obtain ⟨rfl, rfl⟩ := trodVars_none hV
  have hlt : ∀ x ∈ before, x.block < W.heap.size := fun x hx => hW'.lt x hx
  have hlp : ∀ x ∈ p, x.block < W.heap.size := fun x hx => hlt x (by rw [hbe]; simp [hx])
  have hsz' : (DataW.weightsEach Try.prog fn.params.toList ds).all (· ≤ reachBytes) = true := by
    have e1 : spec.plain.varTypes Try.prog = [] := by
      unfold DataSpec.varTypes
      have e2 : spec.plain.vars = [] := hv
      rw [e2]; rfl
    have h0 : (DataW.weightsEach Try.prog (fn.params.toList ++ spec.plain.varTypes Try.prog) (ds ++ [])).all (· ≤ reachBytes) = true := hsz
    rw [e1, List.append_nil, List.append_nil] at h0
    exact h0
  refine (walk H enc W base args ds p hval hA hlp hsz').mono fun e W' ⟨he, hg⟩ => ⟨_, he, ?_⟩
  have hfe := hfnspec H ds (trodAll_length hA)
  refine ⟨ds, [], before, [], p, [], hW', ?_, ?_, ?_, hg.frame _, fun h => by cases h⟩
  · rw [List.append_nil, hfe, hres]
    exact trodAll_mk1 (shut_bool Try.underlying4 true)
  · rw [List.append_nil, hfe]
    exact trodAll_later hg hread hlp hA
  · rw [hv]
    have : (spec.fn H (ds ++ [])).vars = [] := by rw [List.append_nil, hfe]
    rw [this]
    rfl
end Go.Proofs.Ytjelfiljebamgaa
