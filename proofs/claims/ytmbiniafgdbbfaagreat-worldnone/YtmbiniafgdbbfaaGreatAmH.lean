/- Regions in the text's order. -/
import Derived.Test.YtmbiniafgdbbfaaGreatAmG
set_option linter.unusedSimpArgs false
set_option linter.unusedVariables false
set_option linter.unusedVariables false
namespace Go.Am

/-- A region's frame: its temporaries, its deferred calls, what is left of it. -/
def _root_.Go.Frame.inR (F : Frame) (tmps : Array Value) (ds : List Deferred) (ops : Array Oper) (l : List Nat) (k : List Item) : Frame := { F with tmps := tmps, defers := ds, todo := .inRegion ops l :: k }

def putT (tmps : Array Value) (dst : Option Tmp) (v : Value) : Array Value := match dst with | some d => tmps.setIfInBounds d v | none => tmps

theorem EnvR.putT {ι : Iota} {env : Env} {nt : Nat} {tmps : Array Value} (h : EnvR ι env nt tmps) {v v' : Value} (hv : VR ι v v') (dst : Option Tmp) : EnvR ι (env.put nt dst v) nt (Am.putT tmps dst v') := h.put hv dst

theorem inR_finish (F : Frame) (tmps : Array Value) (ds : List Deferred) (ops : Array Oper) (i : Nat) (rest : List Nat) (k : List Item) (v : Value) {o : Oper} (ho : ops[i]? = some o) :
    (F.inR tmps ds ops (i :: rest) k).finish v = F.inR (putT tmps o.dst v) ds ops rest k := by
  simp only [Frame.inR, Go.Frame.finish, ho, Option.bind_some, putT]
  cases o.dst <;> rfl

def RegOut (P : Program) (w0 : World) (ι : Iota) (H : Hp) (w : World) (m : Machine) (F : Frame) (k : List Item) (nt : Nat) (cs : List Frame) (kind : CallKind) (u : FrameMode) : RR → Prop
  | .done env ds u' H' => ∃ ι' w' cs' tmps' ds', Inv w0 ι' H' w' ∧ Tran ι H w ι' H' w' ∧ CalOut ι' kind u u' cs cs' ∧ EnvR ι' env nt tmps' ∧ DRs ι' ds ds' ∧ Steps P m (lone { F with tmps := tmps', defers := ds', todo := k } cs' w')
  | .pan ch env ds u' H' => ∃ ι' w' cs' tmps' ds' ch' todo, Inv w0 ι' H' w' ∧ Tran ι H w ι' H' w' ∧ CalOut ι' kind u u' cs cs' ∧ EnvR ι' env nt tmps' ∧ DRs ι' ds ds' ∧ ChR ι' ch ch' ∧
      Steps P m (lone { F with tmps := tmps', defers := ds', todo := todo, mode := .panicking ch' } cs' w')

section
variable {X : Cx} {fns : Nat → Option Func} {w0 : World} {rec : Rec}

theorem RegOut.glue {ι ι1 : Iota} {H H1 : Hp} {w w1 : World} {m m1 : Machine} {F : Frame} {k : List Item} {nt : Nat} {cs cs1 : List Frame} {kind : CallKind} {u u1 : FrameMode} {r : RR}
    (hT : Tran ι H w ι1 H1 w1) (hC : CalOut ι1 kind u u1 cs cs1) (hs : Steps X.P m m1) (h : RegOut X.P w0 ι1 H1 w1 m1 F k nt cs1 kind u1 r) : RegOut X.P w0 ι H w m F k nt cs kind u r := by
  cases r with
  | done env ds u' H' =>
    obtain ⟨ι', w', cs', tmps', ds', a, b, c, d, e, f⟩ := h
    exact ⟨ι', w', cs', tmps', ds', a, hT.trans b, (hC.mono b.ext).trans c, d, e, hs.trans f⟩
  | pan ch env ds u' H' =>
    obtain ⟨ι', w', cs', tmps', ds', ch', todo, a, b, c, d, e, f, g⟩ := h
    exact ⟨ι', w', cs', tmps', ds', ch', todo, a, hT.trans b, (hC.mono b.ext).trans c, d, e, f, hs.trans g⟩

theorem noCall_inR (F : Frame) (tmps : Array Value) (ds : List Deferred) (ops : Array Oper) (l : List Nat) (k : List Item) : NoCall (F.inR tmps ds ops l k) := by
  intro d wr r s k' h; simp [Frame.inR] at h

theorem step_inR_end {P : Program} {F : Frame} {tmps : Array Value} {ds : List Deferred} {ops : Array Oper} {k : List Item} {cs : List Frame} {w : World} (hm : F.mode = .run) :
    step P (lone (F.inR tmps ds ops [] k) cs w) = .next (lone { F with tmps := tmps, defers := ds, todo := k } cs w) :=
  step_lone_go (by simp [stepG, stepG.exec, Frame.inR, hm])
theorem step_inR_skip {P : Program} {F : Frame} {tmps : Array Value} {ds : List Deferred} {ops : Array Oper} {i : Nat} {rest : List Nat} {k : List Item} {cs : List Frame} {w : World} (hm : F.mode = .run) {o : Oper} (ho : ops[i]? = some o)
    (hw : Region.wanted o (yielded ops tmps) = false) :
    step P (lone (F.inR tmps ds ops (i :: rest) k) cs w) = .next (lone (F.inR (putT tmps o.dst undef) ds ops rest k) cs w) := by
  rw [← inR_finish F tmps ds ops i rest k undef ho]
  exact step_lone_go (by simp [stepG, stepG.exec, Frame.inR, hm, ho, hw])

theorem regU_ok (hS : Sound X.P w0 rec) (hP : FnsOk X.P fns) (hQ : PrimOk X w0) (R : RoOk X w0) {fr : Fr} {F : Frame} (hm : F.mode = .run) (hk : F.kind = fr.kind) (hr : fr.round = none → F.roundOf = none) (hr2 : F.roundOf = none → fr.round = none) {ops : Array Oper} {k : List Item} :
    ∀ (os : List Oper) (i : Nat), ops.toList.drop i = os → ∀ (ι : Iota) (H : Hp) (w : World) (env : Env) (ds : List Deferred) (u : FrameMode) (cs : List Frame) (tmps : Array Value) (ds' : List Deferred) (r : RR),
      Inv w0 ι H w → EnvR ι env fr.nt tmps → DRs ι ds ds' → CalR ι fr.kind u cs → regU X fns rec fr ops.toList os env ds u H = some r →
      RegOut X.P w0 ι H w (lone (F.inR tmps ds' ops (List.range' i os.length) k) cs w) F k fr.nt cs fr.kind u r
  | [], i, hd, ι, H, w, env, ds, u, cs, tmps, ds', r, I, hE, hD, hC, h => by
    simp only [regU, Option.some.injEq] at h
    subst h
    exact ⟨ι, w, cs, tmps, ds', I, Tran.refl _ _ _, CalOut.refl hC, hE, hD, .one (step_inR_end hm)⟩
  | o :: os, i, hd, ι, H, w, env, ds, u, cs, tmps, ds', r, I, hE, hD, hC, h => by
    have ho : ops[i]? = some o := by
      have : (ops.toList.drop i)[0]? = some o := by rw [hd]; rfl
      simpa using this
    have hd' : ops.toList.drop (i + 1) = os := by
      have : (ops.toList.drop i).drop 1 = os := by rw [hd]; rfl
      rwa [List.drop_drop] at this
    have hrange : List.range' i (o :: os).length = i :: List.range' (i + 1) os.length := by simp [List.range'_succ]
    rw [hrange]
    unfold regU at h
    have hw := wanted_ok (ops := ops) hE o
    cases hwa : wantedA ops.toList env o with
    | false =>
      rw [hwa] at h hw
      simp only [cond_false] at h
      have := regU_ok (k := k) hS hP hQ R hm hk hr hr2 os (i + 1) hd' ι H w _ ds u cs _ ds' r I (hE.putT .undef o.dst) hD hC h
      exact RegOut.glue (Tran.refl _ _ _) (CalOut.refl hC) (.one (step_inR_skip hm ho hw)) this
    | true =>
      rw [hwa] at h hw
      simp only [cond_true, Option.bind_eq_some_iff] at h
      obtain ⟨q, hq, h⟩ := h
      have hap : ((F.inR tmps ds' ops (i :: List.range' (i + 1) os.length) k).roundOf = none ∨ ∀ c, o.op ≠ .defer c) → Ap X.P (lone (F.inR tmps ds' ops (i :: List.range' (i + 1) os.length) k) cs w) (F.inR tmps ds' ops (i :: List.range' (i + 1) os.length) k) cs (execOp (F.inR tmps ds' ops (i :: List.range' (i + 1) os.length) k).eval o) w := fun hdd =>
        ap_op (by exact hm) rfl ho (by exact hw) hdd
      have hout := opRes_ok hS hP hQ R I (fr := fr) (F := F.inR tmps ds' ops (i :: List.range' (i + 1) os.length) k) (cs := cs) (u := u) hk (fun h0 => by exact hr h0) (fun t _ => by exact hE.val t) hC hap (noCall_inR _ _ _ _ _ _) hq
      cases q with
      | val v u1 H1 =>
        obtain ⟨ι1, w1, v', cs1, hI, hT, hv, hCo, hs⟩ := hout
        rw [inR_finish _ _ _ _ _ _ _ _ ho] at hs
        have := regU_ok (k := k) hS hP hQ R hm hk hr hr2 os (i + 1) hd' ι1 H1 w1 _ ds u1 cs1 _ ds' r hI ((hE.mono hT.ext).putT hv o.dst) (hD.mono hT.ext) hCo.cal h
        exact RegOut.glue hT hCo hs this
      | pan ch u1 H1 =>
        obtain ⟨ι1, w1, ch', cs1, hI, hT, hch, hCo, hs⟩ := hout
        simp only [Option.some.injEq] at h
        subst h
        refine ⟨ι1, w1, cs1, tmps, ds', ch', .inRegion ops (i :: List.range' (i + 1) os.length) :: k, hI, hT, hCo, hE.mono hT.ext, hD.mono hT.ext, hch, ?_⟩
        have e : (F.inR tmps ds' ops (i :: List.range' (i + 1) os.length) k).raise ch' = { F with tmps := tmps, defers := ds', todo := .inRegion ops (i :: List.range' (i + 1) os.length) :: k, mode := .panicking ch' } := by
          simp [Go.Frame.raise, Frame.inR, hm]
        rw [e] at hs; exact hs
      | dfr d =>
        obtain ⟨d', hd1, hs⟩ := hout
        have e : ({ F.inR tmps ds' ops (i :: List.range' (i + 1) os.length) k with defers := d' :: (F.inR tmps ds' ops (i :: List.range' (i + 1) os.length) k).defers } : Frame) = F.inR tmps (d' :: ds') ops (i :: List.range' (i + 1) os.length) k := rfl
        rw [e, inR_finish _ _ _ _ _ _ _ _ ho] at hs
        have := regU_ok (k := k) hS hP hQ R hm hk hr hr2 os (i + 1) hd' ι H w _ _ u cs _ (d' :: ds') r I (hE.putT .undef o.dst) (.cons hd1 hD) hC h
        exact RegOut.glue (Tran.refl _ _ _) (CalOut.refl hC) hs this
end
end Go.Am
