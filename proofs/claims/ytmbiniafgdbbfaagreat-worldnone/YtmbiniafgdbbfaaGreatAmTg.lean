/- Regions that draw: the whole. -/
import Derived.Test.YtmbiniafgdbbfaaGreatAmTf
import Derived.Test.YtmbiniafgdbbfaaGreatAmJc
set_option linter.unusedSimpArgs false
set_option linter.unusedVariables false
set_option linter.unusedVariables false
namespace Go.Am

theorem drawn_ok {X : Cx} {fns : Nat → Option Func} {w0 : World} (hmix : X.P.follows .mixedOrders = true) (hP : FnsOk X.P fns) (hQ : PrimOk X w0) (R : RoOk X w0) (rec : Rec) (hSd : Sound X.P w0 rec) : DrawnOk X fns w0 rec := by
  intro fr u ops H r h ι w c cs id k hm ht hR I hC
  unfold regD at h
  obtain ⟨hg, h⟩ := bif_some h
  simp only [Bool.and_eq_true] at hg
  obtain ⟨hd, hfb⟩ := hg
  have hfb := Nat.le_of_ble_eq_true hfb
  simp only [Option.bind_eq_some_iff] at h
  obtain ⟨⟨es, Gs, H'⟩, htx, h⟩ := h
  obtain ⟨hfl, h⟩ := bif_some h
  cases h
  simp only at hfl ⊢
  have D := drawOk_facts hd
  obtain ⟨hlen, hp, ev, al, h1, h2, h3, h4, h5, h6⟩ := tx_lay _ _ _ _ _ _ _ htx
  have L : Lay X fns rec fr u H.next ops.toList es hp ev al := ⟨hlen, fun d o e q1 q2 => by have := h5 d o e q1 q2; simpa only [Nat.zero_add] using this⟩
  have hnt := hR.env.small
  let w1 : World := { w with drawn := w.drawn + 1 }
  have I0 : Inv w0 ι (hp 0) w1 := by
    rw [h1]; exact (I.drew (w.drawn + 1)).sub (fun n o hn => hn) (Nat.le_add_right _ _) hfb
  have T0 : Tran ι H w ι (hp 0) w1 := by
    rw [h1]; exact ⟨Ext.refl _, fun _ _ q => .inl q, Nat.le_add_right _ _, Nat.le_refl _, fun _ _ _ => rfl, fun n o B q1 q2 _ => ⟨n, o, B, q1, q2, rfl⟩⟩
  have hnone : ∀ a, ι (H.next + a) = none := fun a => by
    cases hq : ι (H.next + a) with
    | none => rfl
    | some B => have := (I.dom _ B hq).1; omega
  have hSL : ∀ a, ¬ SL (Array.replicate ops.size false) a := fun a hs => by
    simp only [SL, Array.getD_eq_getD_getElem?, Array.getElem?_replicate] at hs
    split at hs <;> simp at hs
  have hunset : ∀ a, (hp 0).get (H.next + a) = none := fun a => by
    cases hq : (hp 0).get (H.next + a) with
    | none => rfl
    | some o => obtain ⟨B, _, hB, _⟩ := I0.live _ o hq; rw [hnone a] at hB; cases hB
  have hPhi0 : Phi X w0 ops.toList es hp al H.next w.heap.size (SL (Array.replicate ops.size false)) 0 ι w1 :=
    ⟨I0, Nat.zero_le _, .inl rfl, fun a ha _ => absurd ha (hSL a), fun a _ _ => hnone a, fun a _ _ => hunset a, fun a ob _ ha => absurd ha (hSL a), by rw [h1]; exact Nat.le_refl _, Nat.le_refl _⟩
  have hst0 : DSt X w0 ops es hp al ev H.next ι H w fr u cs (lone (c.inR c.tmps c.defers ops (Region.linearise.go .any ops ops.size (w.tape w.drawn (.order c.fn id)) (Array.replicate ops.size false) []) k) cs w1) c c.defers k (SL (Array.replicate ops.size false)) (Region.linearise.go .any ops ops.size (w.tape w.drawn (.order c.fn id)) (Array.replicate ops.size false) []) := by
    refine ⟨0, ι, w1, cs, c.tmps, hPhi0, T0, CalOut.refl hC, hR.env.size, fun t => ?_, Steps.refl _ _⟩
    rw [valS_cut ops.toList es fr.nt (ev 0) (m := 0) _ (Nat.zero_le _) (fun j _ _ _ => hSL j), h3]
    exact hR.env.val t
  have hQF : ∀ (S : Nat → Prop) i o p ι w2, Closed ops.toList S → ¬ S i → (∀ j, beforeOk (masks ops.toList []) j i = true → S j) → ops[i]? = some o → Phi X w0 ops.toList es hp al H.next w.heap.size S p ι w2 → ∀ e, es[i]? = some e → wantedA ops.toList (ev i) o = true → quietOp X o.op = true → quietVal X o (ev i) (hp p) = some e.v := by
    intro S i o p ι2 w2 hcl hni hah ho hPhi e he hw hq
    have hoL : ops.toList[i]? = some o := by simpa using ho
    rcases Bool.or_eq_true _ _ ▸ hfl with hall | hflo
    · have hconst : ∀ d, d ≤ ops.toList.length → hp d = hp 0 := by
        intro d
        induction d with
        | zero => intro _; rfl
        | succ d ih =>
          intro hd'
          have q1 := List.getElem?_eq_getElem (show d < ops.toList.length by omega)
          have q2 := List.getElem?_eq_getElem (show d < es.length by omega)
          have q3 := List.all_eq_true.1 hall _ (List.mem_of_getElem? q1)
          rw [← ih (by omega)]
          cases (L.st d _ _ q1 q2).2.2 with
          | skip _ _ _ hh => exact hh
          | quiet _ _ _ _ _ hh => exact hh
          | alloc _ _ _ hq' => rw [q3] at hq'; cases hq'
          | eff _ _ hq' => rw [q3] at hq'; cases hq'
      have hi : i < ops.toList.length := by
        rcases Nat.lt_or_ge i ops.toList.length with h' | h'
        · exact h'
        · rw [List.getElem?_eq_none h'] at hoL; cases hoL
      rw [hconst p hPhi.ple, ← hconst i (Nat.le_of_lt hi)]
      cases (L.st i o e hoL he).2.2 with
      | skip h1 => rw [hw] at h1; cases h1
      | quiet _ _ _ _ hv => exact hv
      | alloc _ _ _ hq' => rw [hq] at hq'; cases hq'
      | eff _ _ hq' => rw [hq] at hq'; cases hq'
    · rw [← h1] at hflo
      exact float_ok L h6 hflo D hcl hni hah hoL hPhi he hw hq
  obtain ⟨S, hall, p, ι2, w2, cs1, tmps, hPhi, hT, hCo, hsz, hval, hsteps⟩ := sched (m := lone (c.inR c.tmps c.defers ops (Region.linearise.go .any ops ops.size (w.tape w.drawn (.order c.fn id)) (Array.replicate ops.size false) []) k) cs w1) (F := c) (ds' := c.defers) (k := k) (cs := cs) (ι0 := ι) (Hs := H) (ws := w) hSd hP hQ R hm hR.kind (round_none hR) D L hnt (Nat.le_refl _) hQF ops.size (w.tape w.drawn (.order c.fn id)) (Array.replicate ops.size false) (by simp)
    (by simp only [unl]; refine Nat.le_trans (List.countP_le_length ..) (by simp)) (fun a ha => absurd ha (hSL a)) hst0
  have hsize : ops.toList.length = ops.size := by simp
  obtain ⟨hIn, hNn, hGn⟩ := hPhi.adv L ops.toList.length hPhi.ple (Nat.le_refl _) (fun a q1 q2 => by
    cases hq : isEff X ops.toList es a with
    | false => rfl
    | true => have := hPhi.effs a (hall a (by omega)) hq; omega) (fun a _ q2 _ => hall a (by omega))
  have hTn : Tran ι H w ι2 (hp ops.toList.length) w2 := ⟨hT.ext, hT.new, by rw [hNn]; exact hT.next, hT.size, hT.frame, fun n o2 B hn2 hB hb => by
    rcases hGn n o2 hn2 with q | ⟨a, ob, q1, q2, q3, q4, rfl⟩
    · exact hT.mono n o2 B q hB hb
    · exfalso
      obtain ⟨B', x, hB', _, _, hs0, _⟩ := hPhi.pend a ob q2 q3 q1 q4
      rw [hB] at hB'; cases hB'
      omega⟩
  rw [h2] at hIn hTn
  refine ⟨ι2, w2, cs1, tmps, c.defers, hIn, hTn, hCo, ⟨hnt, hsz, fun t => ?_⟩, hR.defers.mono hTn.ext, ?_⟩
  · rw [← h4, env_val (ops := ops.toList) (es := es) hnt rfl (fun d o e q1 q2 => (L.st d o e q1 q2).2.1) L.len t _ (Nat.le_refl _),
      valS_of ops.toList es fr.nt (ev 0) (S := fun _ => True) (S' := S) _ fun j hj _ => ⟨fun _ => hall j (by omega), fun _ => trivial⟩]
    exact hval t
  · refine Steps.head ?_ (hsteps.trans (.one (step_inR_end hm)))
    refine step_lone_go ?_
    simp only [stepG, hm, stepG.exec, ht, Bool.not_true, Bool.false_eq_true, if_false]
    rw [run_choose]
    simp [Question.forced, hmix, Region.schedule, Region.linearise, Frame.inR, hm, w1, Question.cut]

/-- The abstract machine's run is the model's. -/
theorem run_sound' {X : Cx} {fns : Nat → Option Func} {w0 : World} (hmix : X.P.follows .mixedOrders = true) (hP : FnsOk X.P fns) (hQ : PrimOk X w0) (R : RoOk X w0) (n : Nat) : Sound X.P w0 (run X fns n) :=
  run_sound hP hQ R (fun rec => drawn_ok hmix hP hQ R rec) n
end Go.Am
