/- From the abstract machine's run to a call in the model. -/
import Derived.Test.YtmbiniafgdbbfaaGreatAmTg
set_option linter.unusedSimpArgs false
set_option linter.unusedVariables false
set_option linter.unusedVariables false
namespace Go.Am

theorem Inv.start (w : World) : Inv w (fun _ => none) ⟨.e, 0⟩ w :=
  ⟨fun n B h => (by cases h), Nat.zero_le _, fun n o h => absurd (h0 n o h) id, fun n m o o' B C h => absurd (h0 n o h) id, fun b _ => rfl, Nat.le_refl _, rfl, rfl, rfl⟩
where
  h0 (n : Nat) (o : Ob) (h : (⟨.e, 0⟩ : Hp).get n = some o) : False := by
    simp only [Hp.get, Tr.get_e] at h
    cases h

/-- A run's end, seen from outside. -/
def EndsAs (w : World) (e : En) (H : Hp) (en : Ending) (w' : World) : Prop :=
  ∃ ι, Inv w ι H w' ∧ match e with
    | .ret v => ∃ v', en = .returned v' ∧ VR ι v v'
    | .pan ch => ∃ ch', en = .panicked ch' ∧ ChR ι ch ch'

theorem calls_of_run {X : Cx} {fns : Nat → Option Func} {w : World} (hmix : X.P.follows .mixedOrders = true) (hP : FnsOk X.P fns) (hQ : PrimOk X w) (R : RoOk X w) {g : FuncId} {f : Func} {c : Code} {args : List Value} {args' : Array Value}
    (hf : X.P.funcs[g]? = some f) (hb : f.body = some c) (hv : VRs (fun _ => none) args args'.toList) (hl : args.length ≤ f.ntmps) (hn : f.ntmps ≤ 65536) {n : Nat} {e : En} {u' : FrameMode} {H' : Hp}
    (h : run X fns n (enter g f c args .normal) .run ⟨.e, 0⟩ = some (e, u', H')) : Calls X.P g args' w (EndsAs w e H') := by
  intro cs
  obtain ⟨ι', w', cs', hI, hT, hC, hE⟩ := run_sound' hmix hP hQ R n _ _ _ _ _ _ h (fun _ => none) w _ cs (enter_fr hf hb hv hl hn .normal (.inl rfl)) (Inv.start w) (fun hk => by cases hk) (fun hh => absurd rfl hh)
  have hcs : cs' = cs := by
    rcases hC with ⟨a, _⟩ | ⟨_, a, _⟩
    · cases a
    · exact a
  subst hcs
  cases e with
  | ret v =>
    obtain ⟨v', hvr, fr, hs, hg, hk, hfn⟩ := hE
    obtain ⟨g1, g2, g3⟩ := hg
    exact ⟨.returned v', w', fr, ⟨ι', hI, v', rfl, hvr⟩, hs, hfn, g1, g2, hk, g3⟩
  | pan ch =>
    obtain ⟨ch', hvr, fr, hs, hg, hk, hfn⟩ := hE
    exact ⟨.panicked ch', w', fr, ⟨ι', hI, ch', rfl, hvr⟩, hs, hfn, hg⟩
end Go.Am
