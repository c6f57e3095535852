/- From the fast machine's run to a call in the model. -/
import Derived.Test.YtmbiniafgdbbfaaGreatAkK
set_option linter.unusedSimpArgs false
set_option linter.unusedVariables false
set_option linter.unusedVariables false
namespace Go.Am

section
variable {C : Cy}

theorem HR.start (f : Nat → Option Ob2) (hf : ∀ n, f n = none) : HR ⟨.no, f, 0⟩ ⟨.e, 0⟩ := by
  refine ⟨fun n => ?_, rfl, Nat.zero_le _⟩
  have h1 : (⟨.no, f, 0⟩ : H2).get n = none := by
    by_cases hn : n < 262144
    · rw [H2.get_eq _ hn]
      have : T8.get6 (.no : T8 Ob2) n = none := by rw [T8.get6_eq]; rfl
      simp only [this, hf]
    · exact H2.get_ge _ hn
  have h2 : (⟨.e, 0⟩ : Hp).get n = none := by unfold Hp.get; rw [Tr.get_e]
  rw [h1, h2]; exact .none

/-- The state ahead of a call, memory being empty. -/
noncomputable def startArgs (C : Cy) (g : FuncId) (args : List Value) : St := match calD C g with
  | .fn nt c => ⟨nt, ⟨g, .normal, none⟩, putA2 nt 0 args .no, [.code c], [], .run, .run, ⟨.no, fun _ => none, 0⟩, []⟩
  | _ => ⟨0, ⟨g, .normal, none⟩, .no, [], [], .run, .run, ⟨.no, fun _ => none, 0⟩, []⟩

/-- A run's value, and memory behind it. -/
def FinAs (r : Out) (e : En) : Prop := r.1 = e

theorem calD_fn {g : FuncId} {nt : Nat} {c : Code} (h : calD C g = .fn nt c) : ∃ f, C.prim g = none ∧ C.fns g = some f ∧ f.body = some c ∧ nt = f.ntmps ∧ f.ntmps ≤ 512 := by
  unfold calD at h
  split at h
  · cases h
  · rename_i hp
    split at h
    · rename_i f hf
      split at h
      · rename_i c' hb
        revert h
        cases hn : Nat.ble f.ntmps 512 with
        | true => intro h; simp only [cond_true, CalD.fn.injEq] at h; obtain ⟨rfl, rfl⟩ := h; exact ⟨f, hp, hf, hb, rfl, le_of hn⟩
        | false => intro h; cases h
      · cases h
    · cases h

/-- From an end of the run to the call in the model. -/
theorem calls_of_evS {w : World} (hmix : C.X.P.follows .mixedOrders = true) (hF : FnsOk C.X.P C.fns) (hQ : PrimOk C.X w) (R : RoOk C.X w) {g : FuncId} {nt : Nat} {c : Code} {args : List Value} {args' : Array Value} (hd : calD C g = .fn nt c) (hl : args.length ≤ nt)
    (hv : VRs (fun _ => none) args args'.toList) {r : Out} (h : EvS C (startArgs C g args) r) : ∃ G, Calls C.X.P g args' w (EndsAs w r.1 G) := by
  obtain ⟨f, hp, hf, hb, rfl, hn⟩ := calD_fn hd
  obtain ⟨o, hbig, hk⟩ := h
  simp only [startArgs, hd] at hbig hk
  have hk : o = r := hk
  subst hk
  obtain ⟨n, G, hrun, hR⟩ := hbig hn _ _ (ER.args hn args 0 _ _ (by omega) (ER.start _)) (HR.start _ fun _ => rfl)
  exact ⟨G, calls_of_run hmix hF hQ R (hF g f hf).1 hb hv hl (by omega) hrun⟩

/-! Places in code. -/
def cl : Code → Code
  | .seq a _ => a
  | c => c
def cr : Code → Code
  | .seq _ b => b
  | c => c
def cx : Code → Code
  | .cond _ a _ => a
  | c => c
def ce : Code → Code
  | .cond _ _ b => b
  | c => c
def cb : Code → Code
  | .block _ b | .loop b => b
  | c => c
def ca : Code → Code
  | .rangeFunc _ _ a _ => a
  | c => c
def cd : Code → Code
  | .rangeFunc _ _ _ b => b
  | c => c
def co : Code → List Oper
  | .region _ ops _ => ops.toList
  | _ => []
def vi (n : Nat) : Value := .int .i64 (.ofNat n)
def vb (n : Nat) : Value := .int .u8 (.ofNat n)
def va (n o : Nat) : Value := .pointer (some ⟨n, o, none⟩)
def vp : Value := .pointer none
def vn : Value := .slice none 0 0

/-! Runs in pieces. -/
/-- What is looked at of a state that the run has come to. -/
def St.same (s t : St) : Prop := s.nt = t.nt ∧ s.fc = t.fc ∧ s.env = t.env ∧ s.todo = t.todo ∧ s.ds = t.ds ∧ s.mode = t.mode ∧ s.u = t.u ∧ s.ks = t.ks ∧ s.H.next = t.H.next

/-- Some objects, by their handles. -/
noncomputable def treeOf (l : List (Nat × Ob2)) : T8 Ob2 := List.rec .no (fun p _ ih => T8.set6 (.el p.2) p.1 ih) l
noncomputable def allAre (H : H2) (l : List (Nat × Ob2)) : Prop := ∀ p ∈ l, H.get p.1 = some p.2

theorem treeOf_get (l : List (Nat × Ob2)) (hl : ∀ p ∈ l, p.1 < 262144) {n : Nat} (hn : n < 262144) : T8.get6 (treeOf l) n = none ∨ ∃ o, T8.get6 (treeOf l) n = some o ∧ (n, o) ∈ l := by
  induction l with
  | nil => left; show T8.get6 .no n = none; rw [T8.get6_eq]; rfl
  | cons p l ih =>
    have hp := hl p (by simp)
    have ih := ih fun q hq => hl q (by simp [hq])
    show T8.get6 (T8.set6 (.el p.2) p.1 (treeOf l)) n = none ∨ _
    rw [show T8.get6 (treeOf (p :: l)) n = T8.get6 (T8.set6 (.el p.2) p.1 (treeOf l)) n from rfl, T8.get6_set6 _ _ hp hn]
    by_cases e : n = p.1
    · right; rw [if_pos e]; exact ⟨p.2, rfl, by simp [e]⟩
    · rw [if_neg e]
      rcases ih with h | ⟨o, h1, h2⟩
      · exact .inl h
      · exact .inr ⟨o, h1, by simp [h2]⟩

/-- A heap, of which some objects are written out anew. -/
noncomputable def reHeap (H : H2) (l : List (Nat × Ob2)) (next : Nat) : H2 := ⟨treeOf l, H.get, next⟩
theorem reHeap_get {H : H2} {l : List (Nat × Ob2)} {next : Nat} (hl : ∀ p ∈ l, H.get p.1 = some p.2) (n : Nat) : (reHeap H l next).get n = H.get n := by
  by_cases hn : n < 262144
  · rw [H2.get_eq _ hn]
    simp only [reHeap]
    rcases treeOf_get l (fun p hp => H2.get_lt (hl p hp)) hn with h | ⟨o, h1, h2⟩
    · rw [h]
    · rw [h1]; exact (hl _ h2).symm
  · rw [H2.get_ge _ hn, H2.get_ge _ hn]

theorem Big.heap {nt : Nat} {fc : Fc} {env : E2} {todo : List It} {ds : List Deferred} {mode u : FrameMode} {H H' : H2} {o : Out} (hg : ∀ n, H'.get n = H.get n) (hx : H'.next = H.next) (h : Big C nt fc env todo ds mode u H' o) : Big C nt fc env todo ds mode u H o := by
  intro hn env1 G hE hR
  exact h hn env1 G hE ⟨fun n => by rw [hg]; exact hR.obs n, by rw [hx]; exact hR.next, by rw [hx]; exact hR.lim⟩

/-- One piece of a run: from s it comes to a state t; its heap is written out anew. -/
theorem piece (hP : PrOk C) (hz : ZtOk C) {n : Nat} {s t : St} {l : List (Nat × Ob2)} {r : Out} (h : runSt C n s = .st t) (hl : ∀ p ∈ l, t.H.get p.1 = some p.2) (hr : EvS C { t with H := reHeap t.H l t.H.next } r) : EvS C s r := by
  refine runSt_ok hP hz (n := n) ?_
  rw [h]
  obtain ⟨o, hb, hk⟩ := hr
  exact ⟨o, Big.heap (fun n => reHeap_get hl n) rfl hb, hk⟩

/-- What is looked at of a state that a run has come to; its heap. -/
noncomputable def look (r : Res) (hs : List Nat) : Option (Nat × Fc × E2 × List It × List Deferred × FrameMode × FrameMode × List KF × Nat × List (Option Ob2)) := match r with
  | .st s => some (s.nt, s.fc, s.env, s.todo, s.ds, s.mode, s.u, s.ks, s.H.next, hs.map s.H.get)
  | _ => none
noncomputable def heapOf (r : Res) : H2 := match r with
  | .st s => s.H
  | _ => ⟨.no, fun _ => none, 0⟩
/-- A run's end is the value true. -/
noncomputable def endsTrue (r : Res) : Bool := match r with
  | .fin (.ret (.bool b)) _ _ => b
  | _ => false

theorem piece2 (hP : PrOk C) (hz : ZtOk C) {n : Nat} {s : St} {l : List (Nat × Ob2)} {nt : Nat} {fc : Fc} {env : E2} {todo : List It} {ds : List Deferred} {mode u : FrameMode} {ks : List KF} {next : Nat} {r : Out}
    (h : look (runSt C n s) (l.map (·.1)) = some (nt, fc, env, todo, ds, mode, u, ks, next, l.map fun p => some p.2)) (hr : EvS C ⟨nt, fc, env, todo, ds, mode, u, reHeap (heapOf (runSt C n s)) l next, ks⟩ r) : EvS C s r := by
  cases hx : runSt C n s with
  | fin e u H => rw [hx] at h; cases h
  | no => rw [hx] at h; cases h
  | st t =>
    rw [hx] at h hr
    simp only [look, Option.some.injEq, Prod.mk.injEq] at h
    obtain ⟨h1, h2, h3, h4, h5, h6, h7, h8, h9, h10⟩ := h
    refine piece hP hz hx (l := l) (fun p hp => ?_) ?_
    · have : ∀ (l : List (Nat × Ob2)), (l.map (·.1)).map t.H.get = (l.map fun p => some p.2) → ∀ p ∈ l, t.H.get p.1 = some p.2 := by
        intro l
        induction l with
        | nil => intro _ p hp; cases hp
        | cons q l ih =>
          intro he p hp
          simp only [List.map_cons, List.cons.injEq] at he
          rcases List.mem_cons.1 hp with rfl | hp
          · exact he.1
          · exact ih he.2 p hp
      exact this l h10 p hp
    · rw [← h1, ← h2, ← h3, ← h4, ← h5, ← h6, ← h7, ← h8, ← h9] at hr
      exact hr

theorem lastTrue (hP : PrOk C) (hz : ZtOk C) {n : Nat} {s : St} (h : endsTrue (runSt C n s) = true) : ∃ u H, EvS C s (.ret (.bool true), u, H) := by
  unfold endsTrue at h
  split at h
  · rename_i b u H hx
    subst h
    exact ⟨u, H, runSt_ok hP hz (n := n) (by rw [hx]; rfl)⟩
  · cases h

/-- Blocks that were there are as they were. -/
def Kept (w w' : World) : Prop := w'.os = w.os ∧ w'.output = w.output ∧ w.heap.size ≤ w'.heap.size ∧ ∀ b, b < w.heap.size → w'.heap[b]? = w.heap[b]?

theorem calls_true {w : World} (hmix : C.X.P.follows .mixedOrders = true) (hF : FnsOk C.X.P C.fns) (hQ : PrimOk C.X w) (R : RoOk C.X w) {g : FuncId} {nt : Nat} {c : Code} {args : List Value} {args' : Array Value} (hd : calD C g = .fn nt c) (hl : args.length ≤ nt)
    (hv : VRs (fun _ => none) args args'.toList) {u : FrameMode} {H : H2} (h : EvS C (startArgs C g args) (.ret (.bool true), u, H)) : Calls C.X.P g args' w fun e w' => e = .returned (.bool true) ∧ Kept w w' := by
  obtain ⟨G, hc⟩ := calls_of_evS hmix hF hQ R hd hl hv h
  refine hc.mono fun e w' he => ?_
  obtain ⟨ι, hI, v', rfl, hv'⟩ := he
  cases hv'
  exact ⟨rfl, hI.os, hI.output, hI.size, hI.old⟩

theorem lastPiece (hP : PrOk C) (hz : ZtOk C) {n : Nat} {s : St} {e : En} {u : FrameMode} {H : H2} (h : runSt C n s = .fin e u H) : EvS C s (e, u, H) := runSt_ok hP hz (n := n) (by rw [h]; rfl)
end
end Go.Am
