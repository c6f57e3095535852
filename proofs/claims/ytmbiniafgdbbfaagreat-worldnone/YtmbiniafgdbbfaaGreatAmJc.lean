/- The abstract machine's run is the model's: every step. -/
/- The abstract machine's run is the model's: frames that are left; the whole. -/
import Derived.Test.YtmbiniafgdbbfaaGreatAmJ
set_option linter.unusedSimpArgs false
set_option linter.unusedVariables false
set_option linter.unusedVariables false
namespace Go.Am

section
variable {X : Cx} {fns : Nat → Option Func} {w0 : World} {ι : Iota} {H : Hp} {w : World} {rec : Rec}

theorem go_ok (hS : Sound X.P w0 rec) (I : Inv w0 ι H w) {fr : Fr} {c : Frame} (hR : FrR ι fr c) (hm : fr.mode = .run) {cs : List Frame} {u : FrameMode} (hC : CalR ι fr.kind u cs) (hne : fr.round ≠ none → cs ≠ []) {k : List It} {k' : List Item} (hk : ItsR ι k k')
    (hs : Go.step X.P (lone c cs w) = .next (lone { c with todo := k' } cs w)) {e : En} {u' : FrameMode} {H' : Hp} (h : rec { fr with todo := k } u H = some (e, u', H')) : Left X.P w0 ι H w (lone c cs w) fr cs u e u' H' :=
  Left.step hC hs rfl rfl rfl (hS _ _ _ _ _ _ h ι w _ cs (hR.withTodo hm hk) I hC hne)

/-- The frame that runs. -/
theorem run_ok (hS : Sound X.P w0 rec) (hP : FnsOk X.P fns) (hQ : PrimOk X w0) (R : RoOk X w0) (hDr : DrawnOk X fns w0 rec) (I : Inv w0 ι H w) {fr : Fr} {c : Frame} (hR : FrR ι fr c) (hm : fr.mode = .run) {cs : List Frame} {u : FrameMode} (hC : CalR ι fr.kind u cs) (hne : fr.round ≠ none → cs ≠ [])
    {e : En} {u' : FrameMode} {H' : Hp} (h : runBody X fns rec fr u H = some (e, u', H')) : Left X.P w0 ι H w (lone c cs w) fr cs u e u' H' := by
  have hcm := mode_run hR hm
  obtain ⟨fn, env, nt, todo, defers, mode, kind, round⟩ := fr
  simp only at hm
  subst hm
  have ht := hR.todo rfl
  unfold runBody at h
  simp only at h
  simp only at ht
  generalize hct : c.todo = ct at ht
  cases ht with
  | nil =>
    simp only at h
    cases round with
    | none => exact ret_ok hS I hR rfl hC (step_lone_go (by simp [stepG, stepG.exec, hcm, hct, round_none hR rfl])) h
    | some l =>
      simp only [Option.map_eq_some_iff, Prod.mk.injEq] at h
      obtain ⟨r, hr, rfl, rfl, rfl⟩ := h
      exact round_ok (jump := none) I hR rfl hC (hne (by simp)) hr fun b v w' c0 r0 hb he hcs hk => step_lone_go (by subst hcs; simp [stepG, stepG.exec, hcm, hct, hb, he, doReturn, hk])
  | cons hx hk =>
    rename_i k k'
    cases hx with
    | inBlock id => exact go_ok hS I hR rfl hC hne hk (step_lone_go (by simp [stepG, stepG.exec, hcm, hct])) h
    | inLoop b => exact go_ok hS I hR rfl hC hne (.cons (.code b) (.cons (.inLoop b) hk)) (step_lone_go (by simp [stepG, stepG.exec, hcm, hct])) h
    | endRF hB =>
      rename_i l B
      simp only [Option.bind_eq_some_iff] at h
      obtain ⟨r, hr, h⟩ := h
      obtain ⟨hg, r', hx, hL⟩ := loop_inv I hr hB
      have hfin : ∀ (hb : (r'.state == .busy) = false), rec { fn, env, nt, todo := (r.pending.map It.code).toList ++ k, defers, mode := .run, kind, round } u (H.set l (.loop { r with state := .exhausted })) = some (e, u', H') → Left X.P w0 ι H w (lone c cs w) { fn, env, nt, todo := .endRF l :: k, defers, mode := .run, kind, round } cs u e u' H' := by
        intro hb h
        have hset := I.setObj hg hB (.loop { r with state := .exhausted }) (.loop { r' with state := .exhausted })
          (show LoopR ι _ _ from ⟨rfl, hL.pending, hL.fn, hL.env, hL.params, hL.assign, hL.body, hL.defers⟩)
        have hrun : (Instr.endLoop B.block).run X.P w = .ok r.pending (putW w B.block (.loop { r' with state := .exhausted })) := by
          simp only [Instr.endLoop, Sem.run_bind, run_getLoop hx, Result.andThen_ok, hb, Bool.false_eq_true, if_false, Sem.run_pure, run_setObj hx (fun _ _ _ hh => by cases hh), hL.pending]
        have hs : Go.step X.P (lone c cs w) = .next (lone { c with todo := (r.pending.map Item.code).toList ++ k' } cs (putW w B.block (.loop { r' with state := .exhausted }))) :=
          step_lone_go (by simp [stepG, stepG.exec, hcm, hct, hrun])
        have hk2 : ItsR ι ((r.pending.map It.code).toList ++ k) ((r.pending.map Item.code).toList ++ k') := by
          cases r.pending with
          | none => exact hk
          | some x => exact .cons (.code x) hk
        exact Left.glue hset.2 (CalOut.refl hC) (.one hs) rfl rfl rfl (hS _ _ _ _ _ _ h ι _ _ cs (hR.withTodo rfl hk2) hset.1 hC hne)
      have hst := hL.state
      split at h
      · cases h
      · rename_i hnb
        refine hfin ?_ h
        rw [hst]
        cases hh : r.state <;> first | rfl | exact absurd hh hnb
    | beginRound =>
      simp only [Option.bind_eq_some_iff] at h
      obtain ⟨l, h0, r, hr, h⟩ := h
      obtain ⟨B, hB, hrd⟩ := round_some hR h0
      obtain ⟨hg, r', hx, hL⟩ := loop_inv I hr hB
      split at h
      · rename_i hst
        have hset := I.setObj hg hB (.loop { r with state := .busy }) (.loop { r' with state := .busy })
          (show LoopR ι _ _ from ⟨rfl, hL.pending, hL.fn, hL.env, hL.params, hL.assign, hL.body, hL.defers⟩)
        have hst' : r'.state = .ready := hL.state.trans hst
        have hrun : (do c.roundOf.elim (stuck "beginRound: no round") Instr.beginRound; pure .skip : Sem Next).run X.P w = .ok .skip (putW w B.block (.loop { r' with state := .busy })) := by
          simp only [hrd, Option.elim_some, Instr.beginRound, Sem.run_bind, run_getLoop hx, Result.andThen_ok, run_setObj hx (fun _ _ _ hh => by cases hh), hst', Sem.run_pure]
        have A : Ap X.P (lone c cs w) c cs (do c.roundOf.elim (stuck "beginRound: no round") Instr.beginRound; pure .skip) w := fun F' cs' w' hh => step_lone_go (by
          have e1 : c = { c with mode := .run, todo := .beginRound :: k' } := by rw [← hcm, ← hct]
          simp only [stepG, hcm, stepG.exec, hct]
          rw [← hh])
        have hs := A.skip hrun
        have e2 : c.finish undef = { c with todo := k' } := by simp [Frame.finish, hct]
        rw [e2] at hs
        exact Left.glue hset.2 (CalOut.refl hC) (.one hs) rfl rfl rfl (hS _ _ _ _ _ _ h ι _ _ cs (hR.withTodo rfl hk) hset.1 hC hne)
      · cases h
    | code x =>
      cases x with
      | skip => exact go_ok hS I hR rfl hC hne hk (step_lone_go (by simp [stepG, stepG.exec, hcm, hct])) h
      | label l => exact go_ok hS I hR rfl hC hne hk (step_lone_go (by simp [stepG, stepG.exec, hcm, hct])) h
      | seq a b => exact go_ok hS I hR rfl hC hne (.cons (.code a) (.cons (.code b) hk)) (step_lone_go (by simp [stepG, stepG.exec, hcm, hct])) h
      | block id b => exact go_ok hS I hR rfl hC hne (.cons (.code b) (.cons (.inBlock id) hk)) (step_lone_go (by simp [stepG, stepG.exec, hcm, hct])) h
      | loop b => exact go_ok hS I hR rfl hC hne (.cons (.code b) (.cons (.inLoop b) hk)) (step_lone_go (by simp [stepG, stepG.exec, hcm, hct])) h
      | cond q x y =>
        obtain ⟨hq, h⟩ := bif_some h
        split at h
        · rename_i t hv
          have hqv := opnd_ok (ι := ι) hR.env hq
          rw [hv] at hqv
          have hqe : c.eval q = .bool t := by generalize c.eval q = z at hqv; cases hqv; rfl
          cases t with
          | true => exact go_ok hS I hR rfl hC hne (.cons (.code x) hk) (step_lone_go (by simp [stepG, stepG.exec, hcm, hct, hqe])) h
          | false => exact go_ok hS I hR rfl hC hne (.cons (.code y) hk) (step_lone_go (by simp [stepG, stepG.exec, hcm, hct, hqe])) h
        · cases h
      | exit id =>
        simp only at h
        have hx := exitA_ok (id := id) hk
        split at h
        · rename_i k2 he
          obtain ⟨k3, h3, h4⟩ := hx.1 _ he
          exact go_ok hS I hR rfl hC hne h4 (step_lone_go (by simp [stepG, stepG.exec, hcm, hct, h3])) h
        · rename_i he
          have h3 := hx.2 he
          cases round with
          | none => cases h
          | some l =>
            simp only [Option.map_eq_some_iff, Prod.mk.injEq] at h
            obtain ⟨r, hr, rfl, rfl, rfl⟩ := h
            exact round_ok (jump := some (.exit id)) I hR rfl hC (hne (by simp)) hr fun b v w' c0 r0 hb he hcs hk => step_lone_go (by subst hcs; simp [stepG, stepG.exec, hcm, hct, hb, he, doReturn, hk, h3])
      | ret =>
        simp only at h
        cases round with
        | none => exact ret_ok hS I hR rfl hC (step_lone_go (by simp [stepG, stepG.exec, hcm, hct, round_none hR rfl])) h
        | some l =>
          simp only [Option.map_eq_some_iff, Prod.mk.injEq] at h
          obtain ⟨r, hr, rfl, rfl, rfl⟩ := h
          exact round_ok (jump := some .ret) I hR rfl hC (hne (by simp)) hr fun b v w' c0 r0 hb he hcs hk => step_lone_go (by subst hcs; simp [stepG, stepG.exec, hcm, hct, hb, he, doReturn, hk])
      | region id ops draw =>
        cases draw with
        | true =>
          simp only [cond_true, Option.bind_eq_some_iff] at h
          obtain ⟨r, hr, h⟩ := h
          refine reg_then (r := r) hS hR rfl hk hne (hDr _ u ops H r hr ι w c cs id k' hcm hct hR I hC) (fun hh => ?_) ?_
          · have := regD_ds hr; have h0 := (hR.rd hh).1; cases r <;> exact Eq.trans this h0
          · cases r <;> exact h
        | false =>
          simp only [cond_false, Option.bind_eq_some_iff] at h
          obtain ⟨r, hr, h⟩ := h
          have hout := regU_ok (k := k') hS hP hQ R (fr := { fn, env, nt, todo := .code (.region id ops false) :: k, defers, mode := .run, kind, round }) (F := c) hcm hR.kind (round_none hR) (round_none' hR) (ops := ops) ops.toList 0 rfl ι H w env defers u cs c.tmps c.defers r I hR.env hR.defers hC hr
          have hs : Go.step X.P (lone c cs w) = .next (lone (c.inR c.tmps c.defers ops (List.range' 0 ops.toList.length) k') cs w) := step_lone_go (by simp [stepG, stepG.exec, hcm, hct, Frame.inR, List.range_eq_range'])
          refine reg_then (r := r) hS hR rfl hk hne (RegOut.glue (Tran.refl _ _ _) (CalOut.refl hC) (.one hs) hout) (fun hh => ?_) ?_
          · have := regU_ds hh _ _ _ _ _ _ hr; have h0 := (hR.rd hh).1; cases r <;> exact Eq.trans this h0
          · cases r <;> exact h
      | rangeFunc f ps assign body =>
        simp only [Option.bind_eq_some_iff] at h
        obtain ⟨⟨d, mark, H1⟩, h1, ⟨l, H2⟩, h2, h⟩ := h
        obtain ⟨hf, h⟩ := bif_some h
        simp only [Option.bind_eq_some_iff] at h
        obtain ⟨⟨e1, H3⟩, h3, h⟩ := h
        split at h3
        · rename_i g first cap hfv
          refine rangeFunc_ok hS hP hQ I hR rfl hk hct hC hne h1 h2 hf hfv h3 ?_
          cases e1 <;> exact h
        · cases h3
      | _ => cases h
end
end Go.Am
set_option linter.unusedVariables false
namespace Go.Am

section
variable {X : Cx} {fns : Nat → Option Func} {w0 : World} {ι : Iota} {H : Hp} {w : World} {rec : Rec}

/-- The frame that is left. -/
theorem unwind_ok (hS : Sound X.P w0 rec) (hP : FnsOk X.P fns) (R : RoOk X w0) (I : Inv w0 ι H w) {fr : Fr} {c : Frame} (hR : FrR ι fr c) (hm : fr.mode ≠ .run) {cs : List Frame} {u : FrameMode} (hC : CalR ι fr.kind u cs) (hne : fr.round ≠ none → cs ≠ [])
    {e : En} {u' : FrameMode} {H' : Hp} (h : runBody X fns rec fr u H = some (e, u', H')) : Left X.P w0 ι H w (lone c cs w) fr cs u e u' H' := by
  have hcm : c.mode ≠ .run := fun hh => by
    have := hR.mode; rw [hh] at this
    generalize fr.mode = x at this hm
    cases this; exact hm rfl
  obtain ⟨fn, env, nt, todo, defers, mode, kind, round⟩ := fr
  simp only at hm hC hne
  replace h : leaveA X fns rec ⟨fn, env, nt, todo, defers, mode, kind, round⟩ u H = some (e, u', H') := by
    cases mode with
    | run => exact absurd rfl hm
    | returning => exact h
    | panicking c => exact h
  unfold leaveA at h
  · have hds := hR.defers
    simp only at hds
    generalize hcd : c.defers = cd at hds
    cases hds with
    | nil =>
      simp only at h
      cases mode with
      | returning =>
        simp only [Option.bind_eq_some_iff, Option.map_eq_some_iff, Prod.mk.injEq] at h
        obtain ⟨f, hf, v, hv, rfl, rfl, rfl⟩ := h
        have h0 : round = none := by
          cases hr : round with
          | none => rfl
          | some l => exact absurd rfl (hR.rd (by rw [hr]; simp)).2
        have hcr : c.mode = .returning := by
          have := hR.mode; simp only at this
          generalize c.mode = x at this
          cases this; rfl
        obtain ⟨v', hrun, hvr⟩ := res_ok I R hR.env hv
        refine ⟨ι, w, cs, I, Tran.refl _ _ _, CalOut.refl hC, v', hvr, ?_⟩
        rw [h0]
        exact ⟨c, Steps.refl _ _, ⟨hcr, hcd, f, by rw [hR.fn]; exact (hP _ _ hf).1, hrun⟩, hR.kind, hR.fn⟩
      | panicking chain =>
        simp only [Option.map_eq_some_iff, Prod.mk.injEq] at h
        obtain ⟨f, hf, rfl, rfl, rfl⟩ := h
        obtain ⟨ch', hcr, hch⟩ : ∃ ch', c.mode = .panicking ch' ∧ ChR ι chain ch' := by
          have := hR.mode; simp only at this
          generalize c.mode = x at this
          cases this with
          | panicking hh => exact ⟨_, rfl, hh⟩
        exact ⟨ι, w, cs, I, Tran.refl _ _ _, CalOut.refl hC, ch', hch, c, Steps.refl _ _, ⟨hcr, hcd, f, by rw [hR.fn]; exact (hP _ _ hf).1⟩, hR.kind, hR.fn⟩
      | run => cases h
    | cons hd hds =>
      rename_i d d' ds ds'
      have h0 : round = none := by
        cases hr : round with
        | none => rfl
        | some l => have := (hR.rd (by rw [hr]; simp)).1; cases this
      cases hd with
      | collected hB =>
        rename_i b B
        simp only at h
        split at h
        · rename_i calls hg
          obtain ⟨C, x, hC2, hx, hob⟩ := I.live b _ hg
          rw [hB] at hC2; cases hC2
          obtain ⟨calls', rfl, hcalls⟩ : ∃ calls', x = .deferred (some calls') ∧ DRs ι calls calls' := by
            cases x <;> simp only [ObR] at hob
            rename_i y
            cases y with
            | none => cases hob
            | some y => exact ⟨y, rfl, hob⟩
          have hset := I.setObj hg hB (.deferred none) (.deferred none) trivial
          have hrun : (Instr.takeDeferred B.block).run X.P w = .ok calls' (putW w B.block (.deferred none)) := by
            simp only [Instr.takeDeferred, Sem.run_bind, run_getObj hx (fun _ _ _ hh => by cases hh), Result.andThen_ok, run_setObj hx (fun _ _ _ hh => by cases hh), Sem.run_pure]
          have hs : Go.step X.P (lone c cs w) = .next (lone { c with defers := calls' ++ ds' } cs (putW w B.block (.deferred none))) := step_lone_go (by
            cases hmode : c.mode with
            | run => exact absurd hmode hcm
            | returning => simp [stepG, unwind, hmode, hcd, hrun]
            | panicking ch => simp [stepG, unwind, hmode, hcd, hrun])
          exact Left.glue hset.2 (CalOut.refl hC) (.one hs) rfl rfl rfl (hS _ _ _ _ _ _ h ι _ _ cs ⟨hR.fn, hR.env, fun hh => absurd hh hm, hcalls.append hds, hR.mode, hR.kind, hR.round, hR.ok, fun hh => absurd h0 hh⟩ hset.1 hC hne)
        · cases h
      | fn g hcp ha =>
        rename_i cap cap' args args'
        simp only [Option.bind_eq_some_iff] at h
        obtain ⟨f, hf, cb, hb, h⟩ := h
        obtain ⟨hg, h⟩ := bif_some h
        simp only [Bool.and_eq_true] at hg
        simp only [Option.bind_eq_some_iff] at h
        obtain ⟨⟨e1, u1, H1⟩, h1, h⟩ := h
        obtain ⟨hf1, hf2⟩ := hP g f hf
        have hinv : (invoke (.fn (.func g) cap') args').run X.P w = .ok (.enter g (args' ++ cap')) w := callFunc_enter hf1 hf2 hb
        have hs := step_defer (fr := c) (cs := cs) (w := w) (d := { target := .fn (.func g) cap', args := args' }) hcm hcd rfl hinv
        have hv : VRs ι (args.toList ++ cap.toList) (args' ++ cap').toList := by simp only [Array.toList_append]; exact ha.append hcp
        obtain ⟨ι1, w1, cs1, hI, hT, hCo, hE⟩ := hS _ _ _ _ _ _ h1 ι w _ ({ c with defers := ds' } :: cs) (enter_fr hf1 hb hv (by simpa using Nat.le_of_ble_eq_true hg.1) (Nat.le_of_ble_eq_true hg.2) .deferred (.inr rfl)) I (fun _ => ⟨_, _, rfl, hR.mode⟩) (fun hh => absurd rfl hh)
        obtain ⟨m', rfl, hmode⟩ : ∃ m', cs1 = { c with defers := ds', mode := m' } :: cs ∧ ModeR ι1 u1 m' := by
          rcases hCo with ⟨_, m', h2, h3, _⟩ | ⟨hh, _⟩
          · exact ⟨m', h2, h3⟩
          · exact absurd rfl hh
        have hR1 := hR.mono hT.ext
        cases e1 with
        | ret v =>
          obtain ⟨hnr, h⟩ := bif_some h
          obtain ⟨v', _, f2, p, q, r, s⟩ := hE
          have hs2 := step_going_returned (c := { c with defers := ds', mode := m' }) (cs := cs) r q
          refine Left.glue hT ((CalOut.refl hC).mono hT.ext) ((Steps.head hs p).trans (.one hs2)) rfl rfl rfl (hS _ _ _ _ _ _ h ι1 w1 _ cs ⟨hR.fn, hR1.env, fun hh => ?_, hds.mono hT.ext, settle_ok hmode, hR.kind, hR1.round, hR.ok, fun hh => absurd h0 hh⟩ hI (hC.mono hT.ext) hne)
          simp only at hh; rw [hh] at hnr; cases hnr
        | pan ch =>
          obtain ⟨ch', hch, f2, p, q, r, s⟩ := hE
          have hs2 := step_going_panicked (c := { c with defers := ds', mode := m' }) (cs := cs) q
          refine Left.glue hT ((CalOut.refl hC).mono hT.ext) ((Steps.head hs p).trans (.one hs2)) rfl rfl rfl (hS _ _ _ _ _ _ h ι1 w1 _ cs ⟨hR.fn, hR1.env, fun hh => ?_, hds.mono hT.ext, raised_ok hmode hch, hR.kind, hR1.round, hR.ok, fun hh => absurd h0 hh⟩ hI (hC.mono hT.ext) hne)
          simp only at hh; unfold raised at hh; split at hh <;> cases hh
end

theorem run_sound {X : Cx} {fns : Nat → Option Func} {w0 : World} (hP : FnsOk X.P fns) (hQ : PrimOk X w0) (R : RoOk X w0) (hDr : ∀ rec, Sound X.P w0 rec → DrawnOk X fns w0 rec) : ∀ n, Sound X.P w0 (run X fns n)
  | 0 => fun fr u H e u' H' h => by cases h
  | n + 1 => fun fr u H e u' H' h ι w c cs hR I hC hne => by
    have ih := run_sound hP hQ R hDr n
    by_cases hm : fr.mode = .run
    · exact run_ok ih hP hQ R (hDr _ ih) I hR hm hC hne h
    · exact unwind_ok ih hP R I hR hm hC hne h
end Go.Am
