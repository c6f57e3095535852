/- The abstract machine's run is the model's. -/
import Derived.Test.YtmbiniafgdbbfaaGreatAmH
set_option linter.unusedSimpArgs false
set_option linter.unusedVariables false
set_option linter.unusedVariables false
namespace Go.Am

section
variable {X : Cx} {fns : Nat → Option Func} {w0 : World} {ι : Iota} {H : Hp} {w : World} {rec : Rec}

theorem Left.glue {ι1 : Iota} {H1 H' : Hp} {w1 : World} {m m1 : Machine} {fr fr1 : Fr} {cs cs1 : List Frame} {u u1 u' : FrameMode} {e : En} (hT : Tran ι H w ι1 H1 w1) (hC : CalOut ι1 fr.kind u u1 cs cs1) (hs : Steps X.P m m1)
    (hk : fr1.kind = fr.kind) (hr : fr1.round = fr.round) (hf : fr1.fn = fr.fn) (h : Left X.P w0 ι1 H1 w1 m1 fr1 cs1 u1 e u' H') : Left X.P w0 ι H w m fr cs u e u' H' := by
  obtain ⟨ι', w', cs', a, b, c, d⟩ := h
  refine ⟨ι', w', cs', a, hT.trans b, (hC.mono b.ext).trans (hk ▸ c), ?_⟩
  cases e with
  | ret v =>
    obtain ⟨v', hv, d⟩ := d
    refine ⟨v', hv, ?_⟩
    rw [hr] at d
    cases hrd : fr.round with
    | none => rw [hrd] at d; obtain ⟨f, p, q, r, s⟩ := d; exact ⟨f, hs.trans p, q, r.trans hk, s.trans hf⟩
    | some l => rw [hrd] at d; exact fun c r hc => hs.trans (d c r hc)
  | pan ch =>
    obtain ⟨ch', hv, f, p, q, r, s⟩ := d
    exact ⟨ch', hv, f, hs.trans p, q, r.trans hk, s.trans hf⟩

theorem Left.step {m m1 : Machine} {fr fr1 : Fr} {cs : List Frame} {u u' : FrameMode} {e : En} {H' : Hp} (hC : CalR ι fr.kind u cs) (hs : Go.step X.P m = .next m1)
    (hk : fr1.kind = fr.kind) (hr : fr1.round = fr.round) (hf : fr1.fn = fr.fn) (h : Left X.P w0 ι H w m1 fr1 cs u e u' H') : Left X.P w0 ι H w m fr cs u e u' H' :=
  Left.glue (Tran.refl _ _ _) (CalOut.refl hC) (.one hs) hk hr hf h

theorem mode_run {fr : Fr} {c : Frame} (h : FrR ι fr c) (hm : fr.mode = .run) : c.mode = .run := by
  have := h.mode; rw [hm] at this
  generalize c.mode = x at this
  cases this; rfl

theorem FrR.withTodo {fr : Fr} {c : Frame} (h : FrR ι fr c) (hm : fr.mode = .run) {k : List It} {k' : List Item} (hk : ItsR ι k k') : FrR ι { fr with todo := k } { c with todo := k' } :=
  ⟨h.fn, h.env, fun _ => hk, h.defers, h.mode, h.kind, h.round, h.ok, h.rd⟩

theorem round_none {fr : Fr} {c : Frame} (h : FrR ι fr c) (hr : fr.round = none) : c.roundOf = none := by
  have := h.round; rw [hr] at this; exact this
theorem round_some {fr : Fr} {c : Frame} (h : FrR ι fr c) {l : Nat} (hr : fr.round = some l) : ∃ B, ι l = some B ∧ c.roundOf = some B.block := by
  have := h.round; rw [hr] at this; exact this
theorem round_none' {fr : Fr} {c : Frame} (h : FrR ι fr c) (hr : c.roundOf = none) : fr.round = none := by
  have := h.round
  split at this
  · assumption
  · obtain ⟨B, _, e⟩ := this; rw [hr] at e; cases e

/-- A function's frame returns. -/
theorem ret_ok (hS : Sound X.P w0 rec) (I : Inv w0 ι H w) {fr : Fr} {c : Frame} (hR : FrR ι fr c) (h0 : fr.round = none) {cs : List Frame} {u : FrameMode} (hC : CalR ι fr.kind u cs) {m : Machine} (hs : Go.step X.P m = .next (lone { c with mode := .returning } cs w))
    {e : En} {u' : FrameMode} {H' : Hp} (h : rec { fr with mode := .returning } u H = some (e, u', H')) : Left X.P w0 ι H w m fr cs u e u' H' :=
  Left.step hC hs rfl rfl rfl (hS _ _ _ _ _ _ h ι w _ cs ⟨hR.fn, hR.env, fun hh => (by cases hh), hR.defers, .returning, hR.kind, hR.round, hR.ok, fun hh => absurd h0 hh⟩ I hC (fun hh => absurd h0 hh))

theorem run_endRound {P : Program} {b : Nat} {r : Loop} {jump : Option Code} (h : w.heap[b]? = some (.loop r)) :
    (Instr.endRound b jump).run P w = .ok (.bool jump.isNone) (putW w b (.loop { r with state := if jump.isNone then .ready else .done, pending := jump })) := by
  simp only [Instr.endRound, Sem.run_bind, run_getLoop h, Result.andThen_ok, run_setObj h (fun _ _ _ hh => by cases hh), Sem.run_pure]

/-- A round is over. -/
theorem round_ok (I : Inv w0 ι H w) {fr : Fr} {c : Frame} (hR : FrR ι fr c) {l : Nat} (h0 : fr.round = some l) {cs : List Frame} {u : FrameMode} (hC : CalR ι fr.kind u cs) (hne : cs ≠ []) {jump : Option Code} {r : ALoop} (hl : loopAt H l = some r)
    (hs : ∀ b v w' c0 r0, c.roundOf = some b → (Instr.endRound b jump).run X.P w = .ok v w' → cs = c0 :: r0 → c.kind = .normal → Go.step X.P (lone c cs w) = .next (lone (c0.finish v) r0 w')) :
    Left X.P w0 ι H w (lone c cs w) fr cs u (.ret (.bool jump.isNone)) u (H.set l (.loop { r with state := bif jump.isNone then .ready else .done, pending := jump })) := by
  obtain ⟨B, hB, hrd⟩ := round_some hR h0
  obtain ⟨hg, r', hx, hL⟩ := loop_inv I hl hB
  have hk : c.kind = .normal := by
    rw [hR.kind]
    rcases hR.ok with h | ⟨_, h⟩
    · exact h
    · rw [h0] at h; cases h
  have hset := I.setObj hg hB (.loop { r with state := bif jump.isNone then .ready else .done, pending := jump }) (.loop { r' with state := if jump.isNone then .ready else .done, pending := jump })
    (show LoopR ι _ _ from ⟨by cases jump <;> rfl, rfl, hL.fn, hL.env, hL.params, hL.assign, hL.body, hL.defers⟩)
  refine ⟨ι, _, cs, hset.1, hset.2, CalOut.refl hC, .bool jump.isNone, .bool _, ?_⟩
  rw [h0]
  intro c0 r0 hcs
  exact .one (hs _ _ _ c0 r0 hrd (run_endRound hx) hcs hk)

/-- Regions that draw. -/
def DrawnOk (X : Cx) (fns : Nat → Option Func) (w0 : World) (rec : Rec) : Prop := ∀ fr u (ops : Array Oper) H r, regD X fns rec fr u ops.toList H = some r → ∀ ι w (c : Frame) cs id k, c.mode = .run → c.todo = .code (.region id ops true) :: k → FrR ι fr c → Inv w0 ι H w → CalR ι fr.kind u cs →
  RegOut X.P w0 ι H w (lone c cs w) c k fr.nt cs fr.kind u r

/-- Behind a region. -/
theorem reg_then (hS : Sound X.P w0 rec) {fr : Fr} {c : Frame} (hR : FrR ι fr c) (hm : fr.mode = .run) {k : List It} {k' : List Item} (hk : ItsR ι k k') {cs : List Frame} {u : FrameMode} (hne : fr.round ≠ none → cs ≠ []) {m : Machine} {r : RR}
    (hr : RegOut X.P w0 ι H w m c k' fr.nt cs fr.kind u r) (hds : fr.round ≠ none → match r with | .done _ ds _ _ => ds = [] | .pan _ _ ds _ _ => ds = []) {e : En} {u' : FrameMode} {H' : Hp}
    (h : (match r with
      | .done env ds u H => rec { fr with env, defers := ds, todo := k } u H
      | .pan chain env ds u H => rec { fr with env, defers := ds, mode := .panicking chain } u H) = some (e, u', H')) : Left X.P w0 ι H w m fr cs u e u' H' := by
  cases r with
  | done env ds u1 H1 =>
    obtain ⟨ι1, w1, cs1, tmps, ds', hI, hT, hCo, hE, hD, hs⟩ := hr
    have hR1 := hR.mono hT.ext
    exact Left.glue hT hCo hs rfl rfl rfl (hS _ _ _ _ _ _ h ι1 w1 _ cs1 ⟨hR.fn, hE, fun _ => hk.mono hT.ext, hD, hR1.mode, hR.kind, hR1.round, hR.ok, fun hh => ⟨hds hh, (hR.rd hh).2⟩⟩ hI hCo.cal (fun hh => hCo.ne (hne hh)))
  | pan ch env ds u1 H1 =>
    obtain ⟨ι1, w1, cs1, tmps, ds', ch', todo, hI, hT, hCo, hE, hD, hch, hs⟩ := hr
    have hR1 := hR.mono hT.ext
    exact Left.glue hT hCo hs rfl rfl rfl (hS _ _ _ _ _ _ h ι1 w1 _ cs1 ⟨hR.fn, hE, fun hh => (by cases hh), hD, .panicking hch, hR.kind, hR1.round, hR.ok, fun hh => ⟨hds hh, fun hx => by cases hx⟩⟩ hI hCo.cal (fun hh => hCo.ne (hne hh)))

theorem regU_ds {fr : Fr} (h0 : fr.round ≠ none) {all : List Oper} : ∀ (os : List Oper) (env : Env) (ds : List Deferred) (u : FrameMode) (H : Hp) (r : RR), regU X fns rec fr all os env ds u H = some r → match r with | .done _ ds' _ _ => ds' = ds | .pan _ _ ds' _ _ => ds' = ds
  | [], env, ds, u, H, r, h => by simp only [regU, Option.some.injEq] at h; subst h; rfl
  | o :: os, env, ds, u, H, r, h => by
    unfold regU at h
    cases hw : wantedA all env o with
    | false => rw [hw] at h; exact regU_ds h0 os _ _ _ _ _ h
    | true =>
      rw [hw] at h
      simp only [cond_true, Option.bind_eq_some_iff] at h
      obtain ⟨q, hq, h⟩ := h
      cases q with
      | val v u1 H1 => exact regU_ds h0 os _ _ _ _ _ h
      | pan ch u1 H1 => simp only [Option.some.injEq] at h; subst h; rfl
      | dfr d =>
        exfalso
        unfold opRes at hq
        obtain ⟨_, hq⟩ := bif_some hq
        split at hq
        · split at hq
          · simp only [Option.map_eq_some_iff] at hq; obtain ⟨a, _, e⟩ := hq; cases e
          · simp only [Option.map_eq_some_iff] at hq; obtain ⟨a, _, e⟩ := hq; cases e
          · simp only [Option.map_eq_some_iff] at hq
            obtain ⟨⟨en, a⟩, _, e⟩ := hq
            cases en <;> cases e
          · cases hq
        · split at hq
          · rename_i hh _; exact absurd hh h0
          · cases hq
        · split at hq
          · cases hq
          · cases hq
        · simp only [Option.map_eq_some_iff] at hq; obtain ⟨a, _, e⟩ := hq; cases e

theorem regD_ds {fr : Fr} {ops : List Oper} {u : FrameMode} {r : RR} (h : regD X fns rec fr u ops H = some r) : match r with | .done _ ds' _ _ => ds' = fr.defers | .pan _ _ ds' _ _ => ds' = fr.defers := by
  unfold regD at h
  obtain ⟨_, h⟩ := bif_some h
  simp only [Option.bind_eq_some_iff] at h
  obtain ⟨⟨es, Gs, H'⟩, _, h⟩ := h
  obtain ⟨_, h⟩ := bif_some h
  cases h; rfl

/-- A range over a function begins. -/
theorem rangeFunc_ok (hS : Sound X.P w0 rec) (hP : FnsOk X.P fns) (hQ : PrimOk X w0) (I : Inv w0 ι H w) {fr : Fr} {c : Frame} (hR : FrR ι fr c) (hm : fr.mode = .run) {f : Operand} {ps : Array Tmp} {assign body : Code} {k : List It} {k' : List Item} (hk : ItsR ι k k')
    (ht : c.todo = .code (.rangeFunc f ps assign body) :: k') {cs : List Frame} {u : FrameMode} (hC : CalR ι fr.kind u cs) (hne : fr.round ≠ none → cs ≠ []) {d : Nat} {mark : List Deferred} {H1 H2 : Hp} {l : Nat}
    (h1 : (match fr.round with
          | some l => (loopAt H l).map fun (r : ALoop) => (r.defers, ([] : List Deferred), H)
          | none => (H.alloc (.deferred (some []))).map fun (d, H) => (d, [({ target := .collected d, args := #[] } : Deferred)], H)) = some (d, mark, H1))
    (h2 : H1.alloc (.loop { state := .ready, pending := none, fn := fr.fn, env := fr.env, nt := fr.nt, params := ps.toList, assign, body, defers := d }) = some (l, H2)) (hf : opndOk f = true)
    {g : FuncId} {first cap : Array Value} (hfv : opnd fr.env f = .func (.func g) first cap) {e1 : En} {H3 : Hp} (h3 : callF X fns rec g (first.toList ++ [Value.func (.yield l) #[] #[]] ++ cap.toList) H2 = some (e1, H3))
    {e : En} {u' : FrameMode} {H' : Hp} (h : (match e1 with
            | .ret _ => rec { fr with todo := .endRF l :: k, defers := mark ++ fr.defers } u H3
            | .pan chain => rec { fr with defers := mark ++ fr.defers, mode := .panicking chain } u H3) = some (e, u', H')) : Left X.P w0 ι H w (lone c cs w) fr cs u e u' H' := by
  have hcm := mode_run hR hm
  -- the block of the deferred calls
  obtain ⟨ι1, w1, B1, mark', hI1, hT1, hB1, hmk, hrun1⟩ : ∃ ι1 w1 B1 mark', Inv w0 ι1 H1 w1 ∧ Tran ι H w ι1 H1 w1 ∧ ι1 d = some B1 ∧ DRs ι1 mark mark' ∧ (match c.roundOf with
    | some l => do pure ((← Instr.getLoop l).defers, [])
    | none => do
      let r ← newObj (.deferred (some []))
      pure (r, [{ target := .collected r, args := #[] }]) : Sem (Nat × List Deferred)).run X.P w = .ok (B1.block, mark') w1 := by
    split at h1
    · rename_i l0 hl0
      simp only [Option.map_eq_some_iff, Prod.mk.injEq] at h1
      obtain ⟨r, hr, rfl, rfl, rfl⟩ := h1
      obtain ⟨B, hB, hrd⟩ := round_some hR hl0
      obtain ⟨_, r', hx, hL⟩ := loop_inv I hr hB
      obtain ⟨B1, hB1, hd1⟩ := hL.defers
      exact ⟨ι, w, B1, [], I, Tran.refl _ _ _, hB1, .nil, by rw [hrd]; simp [run_getLoop hx, hd1]⟩
    · rename_i hl0
      simp only [Option.map_eq_some_iff, Prod.mk.injEq] at h1
      obtain ⟨⟨n, Hn⟩, ha, rfl, rfl, rfl⟩ := h1
      obtain ⟨ι1, hi, hI, hT⟩ := I.alloc ha ⟨w.heap.size, 0, 0⟩ rfl (.deferred (some [])) fun ι' _ _ => DRs.nil
      exact ⟨ι1, _, ⟨w.heap.size, 0, 0⟩, [{ target := .collected w.heap.size, args := #[] }], hI, hT, hi, .cons (.collected hi) .nil, by rw [round_none hR hl0]; rfl⟩
  obtain ⟨ι2, hi2, hI2, hT2⟩ := hI1.alloc h2 ⟨w1.heap.size, 0, 0⟩ rfl (.loop { state := .ready, pending := none, fn := c.fn, tmps := c.tmps, params := ps, assign, body, defers := B1.block }) fun ι' he _ =>
    (show LoopR ι' _ _ from ⟨rfl, rfl, hR.fn, (hR.env.mono hT1.ext).mono he, rfl, rfl, rfl, ⟨B1, he _ _ hB1, rfl⟩⟩)
  have hrunL : (Instr.enterLoop c.fn c.tmps ps assign body c.roundOf).run X.P w = .ok (w1.heap.size, mark') (pushW w1 (.loop { state := .ready, pending := none, fn := c.fn, tmps := c.tmps, params := ps, assign, body, defers := B1.block })) := by
    clear hi2 hI2 hT2
    revert hrun1
    generalize c.roundOf = ro
    intro hrun1
    cases ro with
    | none =>
      have h' : (Result.ok (w.heap.size, [{ target := .collected w.heap.size, args := #[] }]) (pushW w (.deferred (some []))) : Result (Nat × List Deferred)) = .ok (B1.block, mark') w1 := hrun1
      simp only [Result.ok.injEq, Prod.mk.injEq] at h'
      obtain ⟨⟨e1, e2⟩, e3⟩ := h'
      subst e3 e2
      rw [← e1]
      rfl
    | some l =>
      simp only [Instr.enterLoop, Sem.run_bind, Sem.run_pure] at hrun1 ⊢
      cases hg : (Instr.getLoop l).run X.P w with
      | ok a w' =>
        rw [hg] at hrun1
        simp only [Result.andThen_ok, Result.ok.injEq, Prod.mk.injEq] at hrun1 ⊢
        obtain ⟨⟨e1, e2⟩, e3⟩ := hrun1
        subst e3 e2
        rw [← e1]
        rfl
      | halt hh w' => rw [hg] at hrun1; cases hrun1
  have hT12 := hT1.trans hT2
  have hR2 := hR.mono hT12.ext
  let F : Frame := { c with todo := .inRangeFunc w1.heap.size :: k', defers := mark' ++ c.defers }
  have hfe : VR ι2 (opnd fr.env f) (c.eval f) := opnd_ok hR2.env hf
  rw [hfv] at hfe
  obtain ⟨a', c', hce, ha, hcp⟩ : ∃ a' c', c.eval f = .func (.func g) a' c' ∧ VRs ι2 first.toList a'.toList ∧ VRs ι2 cap.toList c'.toList := by
    generalize c.eval f = y at hfe
    cases hfe with
    | fn _ ha hc => exact ⟨_, _, rfl, ha, hc⟩
  have hFe : F.eval f = .func (.func g) a' c' := by
    rw [← hce]; cases f <;> rfl
  have A : Ap X.P (lone c cs w) F cs (callFunc g (a' ++ #[Value.func (.yield w1.heap.size) #[] #[]] ++ c')) (pushW w1 (.loop { state := .ready, pending := none, fn := c.fn, tmps := c.tmps, params := ps, assign, body, defers := B1.block })) := by
    intro F' cs' w' hst
    refine step_lone_go ?_
    simp only [stepG, hcm, stepG.exec, ht, Sem.runT_eq, hrunL, GStep.bare_after]
    rw [← hst]
    have e2 : (do let d ← resolve F.eval { callee := .value f, args := #[.const (.func (.yield w1.heap.size) #[] #[])], argTypes := #[] } 0; invoke d.target d.args : Sem Next) = callFunc g (a' ++ #[Value.func (.yield w1.heap.size) #[] #[]] ++ c') := by
      simp only [resolve, hFe, Deferred.ofValue, List.map_toArray, List.map_cons, List.map_nil]
      rfl
    rw [← e2]
    simp only [F, hcm]
  have hcall := callF_ok hS hP hQ hI2 (m := lone c cs w) (F := F) (cs := cs) (args' := a' ++ #[Value.func (.yield w1.heap.size) #[] #[]] ++ c') (by
    simp only [Array.toList_append]
    exact (ha.append (.cons (.yield hi2) .nil)).append hcp) A (by intro _ _ _ _ _ hh; simp [F] at hh) h3
  have hmark : fr.round ≠ none → mark = [] := fun hh => by
    split at h1
    · simp only [Option.map_eq_some_iff, Prod.mk.injEq] at h1; obtain ⟨_, _, _, e, _⟩ := h1; exact e.symm
    · rename_i h0; exact absurd h0 hh
  cases e1 with
  | ret v =>
    obtain ⟨ι3, w3, v', hI3, hT3, hv, hs⟩ := hcall
    have hTa := hT12.trans hT3
    have hR3 := hR.mono hTa.ext
    refine Left.glue hTa ((CalOut.refl hC).mono hTa.ext) hs rfl rfl rfl (hS _ _ _ _ _ _ h ι3 w3 _ cs ?_ hI3 (hC.mono hTa.ext) hne)
    have e3 : F.finish v' = { c with todo := .endRangeFunc w1.heap.size :: k', defers := mark' ++ c.defers } := rfl
    rw [e3]
    exact ⟨hR.fn, hR3.env, fun _ => .cons (.endRF (hT3.ext _ _ hi2)) (hk.mono hTa.ext), ((hmk.mono (hT2.ext.trans hT3.ext))).append hR3.defers, hR3.mode, hR.kind, hR3.round, hR.ok, fun hh => ⟨by simp [hmark hh, (hR.rd hh).1], (hR.rd hh).2⟩⟩
  | pan ch =>
    obtain ⟨ι3, w3, ch', hI3, hT3, hv, hs⟩ := hcall
    have hTa := hT12.trans hT3
    have hR3 := hR.mono hTa.ext
    refine Left.glue hTa ((CalOut.refl hC).mono hTa.ext) hs rfl rfl rfl (hS _ _ _ _ _ _ h ι3 w3 _ cs ?_ hI3 (hC.mono hTa.ext) hne)
    have e3 : F.raise ch' = { F with mode := .panicking ch' } := by simp [Frame.raise, F, hcm]
    rw [e3]
    exact ⟨hR.fn, hR3.env, fun hh => (by cases hh), ((hmk.mono (hT2.ext.trans hT3.ext))).append hR3.defers, .panicking hv, hR.kind, hR3.round, hR.ok, fun hh => ⟨by simp [hmark hh, (hR.rd hh).1], fun hx => by cases hx⟩⟩
end
end Go.Am
