/- The abstract machine's operations in the model's machine; regions in the text's order. -/
import Derived.Test.YtmbiniafgdbbfaaGreatAmF
set_option linter.unusedSimpArgs false
set_option linter.unusedVariables false
set_option linter.unusedVariables false
namespace Go.Am

def OpOut (P : Program) (w0 : World) (ι : Iota) (H : Hp) (w : World) (m : Machine) (F : Frame) (cs : List Frame) (kind : CallKind) (u : FrameMode) : RO → Prop
  | .val v u' H' => ∃ ι' w' v' cs', Inv w0 ι' H' w' ∧ Tran ι H w ι' H' w' ∧ VR ι' v v' ∧ CalOut ι' kind u u' cs cs' ∧ Steps P m (lone (F.finish v') cs' w')
  | .pan ch u' H' => ∃ ι' w' ch' cs', Inv w0 ι' H' w' ∧ Tran ι H w ι' H' w' ∧ ChR ι' ch ch' ∧ CalOut ι' kind u u' cs cs' ∧ Steps P m (lone (F.raise ch') cs' w')
  | .dfr d => ∃ d', DR ι d d' ∧ Steps P m (lone ({ F with defers := d' :: F.defers }.finish undef) cs w)

section
variable {X : Cx} {fns : Nat → Option Func} {w0 : World} {ι : Iota} {H : Hp} {w : World} {rec : Rec}

theorem Tran.ext' {H' : Hp} {ι' : Iota} {w' : World} (h : Tran ι H w ι' H' w') : Ext ι ι' := h.ext

theorem OpOut.of_called {m : Machine} {F : Frame} {cs : List Frame} {kind : CallKind} {u : FrameMode} {e : En} {H' : Hp} (hC : CalR ι kind u cs) (h : Called X.P w0 ι H w m F cs H' e) :
    OpOut X.P w0 ι H w m F cs kind u (match e with | .ret v => .val v u H' | .pan ch => .pan ch u H') := by
  cases e with
  | ret v => obtain ⟨ι', w', v', a, b, c, d⟩ := h; exact ⟨ι', w', v', cs, a, b, c, (CalOut.refl hC).mono b.ext, d⟩
  | pan ch => obtain ⟨ι', w', v', a, b, c, d⟩ := h; exact ⟨ι', w', v', cs, a, b, c, (CalOut.refl hC).mono b.ext, d⟩

theorem OpOut.of_does {m : Machine} {F : Frame} {cs : List Frame} {kind : CallKind} {u : FrameMode} {H' : Hp} {v : Value} {s : Sem Next} (hC : CalR ι kind u cs) (A : Ap X.P m F cs s w) (h : Does X.P w0 ι H w s v H') :
    OpOut X.P w0 ι H w m F cs kind u (.val v u H') := by
  obtain ⟨ι', w', v', hr, hI, hT, hv⟩ := h
  refine ⟨ι', w', v', cs, hI, hT, hv, (CalOut.refl hC).mono hT.ext, ?_⟩
  rcases hr with hr | ⟨hr, rfl⟩
  · exact .one (A.value hr)
  · exact .one (A.skip hr)

theorem loop_inv (I : Inv w0 ι H w) {l : Nat} {r : ALoop} (h : loopAt H l = some r) {B : Blk} (hB : ι l = some B) : H.get l = some (.loop r) ∧ ∃ r', w.heap[B.block]? = some (.loop r') ∧ LoopR ι r r' := by
  unfold loopAt at h
  split at h
  · rename_i q hg
    cases h
    obtain ⟨C, x, hC, hx, hob⟩ := I.live l _ hg
    rw [hB] at hC; cases hC
    cases x <;> simp only [ObR] at hob
    exact ⟨hg, _, hx, hob⟩
  · cases h

theorem run_getLoop {P : Program} {b : Nat} {r : Loop} (h : w.heap[b]? = some (.loop r)) : (Instr.getLoop b).run P w = .ok r w := by
  simp [Instr.getLoop, run_getObj h (fun _ _ _ hh => by cases hh)]

theorem callV_ok (hS : Sound X.P w0 rec) (hP : FnsOk X.P fns) (hQ : PrimOk X w0) (I : Inv w0 ι H w) {fv fv' : Value} (hf : VR ι fv fv') {args : List Value} {args' : Array Value} (hv : VRs ι args args'.toList) {m : Machine} {F : Frame} {cs : List Frame}
    (A : Ap X.P m F cs (do let d ← Deferred.ofValue fv' args'; invoke d.target d.args) w) (hN : NoCall F) {e : En} {H' : Hp} (h : callV X fns rec fv args H = some (e, H')) : Called X.P w0 ι H w m F cs H' e := by
  unfold callV at h
  split at h
  · rename_i g first cap
    cases hf with
    | fn _ ha hc =>
      rename_i a' c'
      refine callF_ok hS hP hQ I (args' := a' ++ args' ++ c') ?_ ?_ hN h
      · simp only [Array.toList_append]; exact (ha.append hv).append hc
      · exact A
  · rename_i l first cap
    obtain ⟨h0, h⟩ := bif_some h
    simp only [Option.bind_eq_some_iff] at h
    obtain ⟨r, hr, h⟩ := h
    obtain ⟨h1, h⟩ := bif_some h
    simp only [Option.map_eq_some_iff, Prod.mk.injEq] at h
    obtain ⟨⟨e1, u1, H1⟩, h2, rfl, rfl⟩ := h
    cases hf with
    | yield hB =>
      rename_i B
      obtain ⟨hg, r', hx, hL⟩ := loop_inv I hr hB
      have hps : args'.size = r'.params.size := by
        have a1 := hv.length
        have a2 := Nat.eq_of_beq_eq_true h1
        have a3 : r'.params.toList.length = r.params.length := by rw [hL.params]
        simp at a1 a3
        omega
      have hrun : (do let d ← Deferred.ofValue (.func (.yield B.block) #[] #[]) args'; invoke d.target d.args : Sem Next).run X.P w = .ok (.round B.block r'.fn ((r'.params.zip args').foldl (fun tmps (t, a) => tmps.setIfInBounds t a) r'.tmps) r'.assign r'.body) w := by
        simp [Deferred.ofValue, invoke, Instr.yield, run_getLoop hx, hps]
      refine Called.of_steps (.one (A.round hrun)) (Called.of_left (fr := { fn := r.fn, env := yieldEnv r.nt r.params args r.env, nt := r.nt, todo := [.code r.assign, .beginRound, .code r.body], defers := [], mode := .run, kind := .normal, round := some l }) rfl (hS _ _ _ _ _ _ h2 ι w _ _ ⟨hL.fn, ?_, fun _ => ?_, .nil, .run, rfl, ⟨B, hB, rfl⟩, .inl rfl, ?_⟩ I ?_ ?_))
      · simp only [Frame.round]
        have := yieldEnv_ok r.params args args'.toList r.env r'.tmps hv hL.env
        rw [← hL.params, ← Array.toList_zip, Array.foldl_toList] at this
        rw [← hL.params]; exact this
      · simp only [Frame.round, hL.assign, hL.body]
        exact .cons (.code _) (.cons .beginRound (.cons (.code _) .nil))
      · intro _; exact ⟨rfl, by simp⟩
      · intro hk; cases hk
      · intro _; simp
  · cases h

theorem recover_ok {fr : Fr} {F : Frame} {u u' : FrameMode} {v : Value} {cs : List Frame} (I : Inv w0 ι H w) (hk : F.kind = fr.kind) (hr : fr.round = none → F.roundOf = none) (hC : CalR ι fr.kind u cs) {m : Machine} {s : Sem Next} (A : Ap X.P m F cs s w) (hs : s.run X.P w = .ok .recover w)
    (h : recoverA fr u = some (v, u')) : OpOut X.P w0 ι H w m F cs fr.kind u (.val v u' H) := by
  unfold recoverA at h
  split at h
  · rename_i pv older h1 h2
    simp only [Option.some.injEq, Prod.mk.injEq] at h
    obtain ⟨rfl, rfl⟩ := h
    have st := A.recover (hr h1) hs
    obtain ⟨c, r, rfl, hm⟩ := hC h2
    cases hcm : c.mode with
    | run => rw [hcm] at hm; cases hm
    | returning => rw [hcm] at hm; cases hm
    | panicking ch =>
      rw [hcm] at hm
      cases hm with
      | panicking hch =>
        cases hch with
        | cons hp ht =>
          rename_i q l
          obtain ⟨qv, qr, qg⟩ := q
          obtain ⟨hv, hrc, hge⟩ := hp
          simp only at hv hrc hge
          subst hrc hge
          have ht1 : tryRecover F (c :: r) = some (qv, { c with mode := .panicking ({ v := qv, recovered := true } :: l) } :: r) := by
            simp [tryRecover, hk, h2, hcm]
          rw [ht1] at st
          exact ⟨ι, w, qv, _, I, Tran.refl _ _ _, hv, .inl ⟨h2, .panicking ({ v := qv, recovered := true } :: l), rfl, .panicking (.cons ⟨hv, rfl, rfl⟩ ht), by simp⟩, .one st⟩
  · rename_i h1 h2
    simp only [Option.some.injEq, Prod.mk.injEq] at h
    obtain ⟨rfl, rfl⟩ := h
    have st := A.recover (hr h1) hs
    have ht1 : tryRecover F cs = none := by unfold tryRecover; rw [hk, h2]
    rw [ht1] at st
    exact ⟨ι, w, .nilIface, cs, I, Tran.refl _ _ _, .nilIface, CalOut.refl hC, .one st⟩
  · rename_i h1 h2
    simp only [Option.some.injEq, Prod.mk.injEq] at h
    obtain ⟨rfl, rfl⟩ := h
    have st := A.recover (hr h1) hs
    obtain ⟨c, r, rfl, hm⟩ := hC h2
    have hcm : c.mode = .returning := by generalize c.mode = x at hm; cases hm; rfl
    have ht1 : tryRecover F (c :: r) = none := by unfold tryRecover; rw [hk, h2]; simp [hcm]
    rw [ht1] at st
    exact ⟨ι, w, .nilIface, _, I, Tran.refl _ _ _, .nilIface, CalOut.refl hC, .one st⟩
  · cases h

theorem opRes_ok (hS : Sound X.P w0 rec) (hP : FnsOk X.P fns) (hQ : PrimOk X w0) (R : RoOk X w0) (I : Inv w0 ι H w) {fr : Fr} {F : Frame} {u : FrameMode} {cs : List Frame} {env : Env} {o : Oper} {m : Machine} {r : RO}
    (hk : F.kind = fr.kind) (hr : fr.round = none → F.roundOf = none) (hE : ∀ t, Operand.tmp t ∈ o.op.operands.toList → VR ι (env.val t) (F.tmps.getD t undef)) (hC : CalR ι fr.kind u cs) (A : (F.roundOf = none ∨ ∀ c, o.op ≠ .defer c) → Ap X.P m F cs (execOp F.eval o) w) (hN : NoCall F)
    (h : opRes X fns rec fr u env H o = some r) : OpOut X.P w0 ι H w m F cs fr.kind u r := by
  unfold opRes at h
  obtain ⟨hop, h⟩ := bif_some h
  have hρ : ∀ x ∈ o.op.operands.toList, VR ι (opnd env x) (F.eval x) := fun x hx => by
    have := List.all_eq_true.1 hop x hx
    cases x with
    | tmp t => exact hE t hx
    | const v => exact VR.closed v this
    | global g => cases this
    | func f => exact .fn f .nil .nil
  split at h
  · rename_i c e
    have hnd : ∀ c', o.op ≠ .defer c' := by rw [e]; intro c' hh; cases hh
    have A := A (.inr hnd)
    have hargs : VRs ι (c.args.toList.map (opnd env)) (c.args.map F.eval).toList := by
      rw [Array.toList_map]
      exact VRs.map fun x hx => hρ x (by rw [e]; simp [Op.operands, Call.operands] at hx ⊢; exact .inr hx)
    split at h
    · rename_i hc
      simp only [Option.map_eq_some_iff] at h
      obtain ⟨⟨v, u'⟩, h1, rfl⟩ := h
      exact recover_ok I hk hr hC A (by simp [execOp, e, resolve, hc, invoke, builtin]) h1
    · rename_i b hb hc
      simp only [Option.map_eq_some_iff] at h
      obtain ⟨⟨v, H'⟩, h1, rfl⟩ := h
      refine OpOut.of_does hC A ?_
      obtain ⟨ι', w', v', hrun, hI, hT, hv⟩ := builtinA_ok (rt := o.type) (cs := c.args.map fun | .const _ => true | _ => false) I R hargs h1
      exact ⟨ι', w', v', .inl (by simp only [execOp, e, resolve, hc, Sem.run_bind, Sem.run_pure, Result.andThen_ok, invoke]; exact hrun), hI, hT, hv⟩
    · rename_i f hc
      simp only [Option.map_eq_some_iff] at h
      obtain ⟨⟨en, H'⟩, h1, rfl⟩ := h
      have hf : VR ι (opnd env f) (F.eval f) := hρ f (by rw [e]; simp [Op.operands, Call.operands, hc])
      have A' : Ap X.P m F cs (do let d ← Deferred.ofValue (F.eval f) (c.args.map F.eval); invoke d.target d.args) w := by
        have : execOp F.eval o = (do let d ← Deferred.ofValue (F.eval f) (c.args.map F.eval); invoke d.target d.args) := by
          simp only [execOp, e, resolve, hc]
        rw [← this]; exact A
      have := OpOut.of_called hC (callV_ok hS hP hQ I hf hargs A' hN h1)
      cases en <;> exact this
    · cases h
  · rename_i c e
    split at h
    · rename_i f h0 hc
      split at h
      · rename_i g first cap hf
        cases h
        have A := A (.inl (hr h0))
        have hfv : VR ι (opnd env f) (F.eval f) := hρ f (by rw [e]; simp [Op.operands, Call.operands, hc])
        rw [hf] at hfv
        generalize hfe : F.eval f = fv' at hfv
        cases hfv with
        | fn _ ha hcp =>
          rename_i a' c'
          have hargs : VRs ι (c.args.toList.map (opnd env)) (c.args.map F.eval).toList := by
            rw [Array.toList_map]
            exact VRs.map fun x hx => hρ x (by rw [e]; simp [Op.operands, Call.operands] at hx ⊢; exact .inr hx)
          refine ⟨{ target := .fn (.func g) c', args := a' ++ c.args.map F.eval }, .fn g hcp ?_, .one (A.defer ?_)⟩
          · simp only [Array.toList_append]; exact ha.append hargs
          · simp [execOp, e, resolve, hc, hfe, Deferred.ofValue]
      · cases h
    · cases h
  · rename_i x e
    have hnd : ∀ c', o.op ≠ .defer c' := by rw [e]; intro c' hh; cases hh
    have A := A (.inr hnd)
    split at h
    · rename_i t v hx
      cases h
      have hxv := hρ x (by rw [e]; simp [Op.operands])
      rw [hx] at hxv
      generalize hfe : F.eval x = xv at hxv
      cases hxv with
      | iface _ hv =>
        rename_i v'
        exact ⟨ι, w, [{ v := .iface t v', recovered := false }], cs, I, Tran.refl _ _ _, .cons ⟨.iface t hv, rfl, rfl⟩ .nil, CalOut.refl hC, .one (A.panic (by simp [execOp, e, hfe, Instr.panic]))⟩
    · cases h
  · rename_i h1 h2 h3
    have A := A (.inr fun c hc => h2 c hc)
    simp only [Option.map_eq_some_iff] at h
    obtain ⟨⟨v, H'⟩, h4, rfl⟩ := h
    exact OpOut.of_does hC A (aop_ok I R hρ h4)
end
end Go.Am
