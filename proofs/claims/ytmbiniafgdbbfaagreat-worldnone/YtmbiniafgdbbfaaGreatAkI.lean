/- The fast machine: its control is the abstract machine's. What is claimed; calls; regions in the text's order. -/
import Derived.Test.YtmbiniafgdbbfaaGreatAkG
import Derived.Test.YtmbiniafgdbbfaaGreatAkH
set_option linter.unusedSimpArgs false
set_option linter.unusedVariables false
set_option linter.unusedVariables false
namespace Go.Am

def FrOf (fc : Fc) (nt : Nat) (env : Env) (todo : List It) (ds : List Deferred) (mode : FrameMode) : Fr :=
  { fn := fc.fn, env, nt, todo, defers := ds, mode, kind := fc.kind, round := fc.round }

/-- A tree's reading behind a setting. -/
theorem Env.val_set (env : Env) {i : Nat} (hi : i < FB) (v : Value) (t : Nat) : Env.val (env.set 40 i (some v)) t = if t = i then v else env.val t := by
  unfold Env.val
  rw [Tr.get_set 40 _ _ _ _ hi]
  by_cases h : t = i <;> simp [h]

theorem ER.arg {nt : Nat} {env : E2} {env1 : Env} (h : ER nt env env1) (hn : nt ≤ 512) {i : Nat} (hi : i < nt) (v : Value) : ER nt ((tmpS nt i).f env v) (env1.set 40 i (some v)) := by
  intro t
  rw [Env.val_set _ (by unfold FB; omega), h t]
  by_cases ht : t < nt
  · rw [if_pos ht, if_pos ht, tmpG_set hi ht hn]
  · rw [if_neg ht, if_neg ht, if_neg (by omega)]
theorem ER.put {nt : Nat} {env : E2} {env1 : Env} (h : ER nt env env1) (hn : nt ≤ 512) (d : Option Tmp) (v : Value) : ER nt ((putD nt d).f env v) (env1.put nt d v) := by
  cases d with
  | none => exact h
  | some d =>
    unfold putD Env.put
    simp only
    by_cases hd : d < nt
    · have h1 : Nat.blt d nt = true := by rw [blt_lt]; exact decide_eq_true hd
      have h2 : Nat.blt d FB = true := by rw [blt_lt]; exact decide_eq_true (Nat.lt_of_lt_of_le (Nat.lt_of_lt_of_le hd hn) (by decide))
      rw [h1, h2]
      exact h.arg hn hd v
    · have h1 : Nat.blt d nt = false := by rw [blt_lt]; exact decide_eq_false hd
      rw [h1]
      exact h
theorem ER.start (nt : Nat) : ER nt .no .e := by
  intro t
  have : Env.val .e t = undef := by unfold Env.val; rw [Tr.get_e]; rfl
  rw [this]
  by_cases ht : t < nt <;> simp [ht, tmpG_no]
theorem ER.args {nt : Nat} (hn : nt ≤ 512) : ∀ (l : List Value) (i : Nat) (env : E2) (env1 : Env), i + l.length ≤ nt → ER nt env env1 → ER nt (putA2 nt i l env) (putArgs i l env1)
  | [], i, env, env1, _, h => h
  | v :: l, i, env, env1, hl, h => ER.args hn l (i + 1) _ _ (by simp at hl; omega) (h.arg hn (by simp at hl; omega) v)
theorem ER.yield {nt : Nat} (hn : nt ≤ 512) : ∀ (ps : List Tmp) (vs : List Value) (env : E2) (env1 : Env), ER nt env env1 → ER nt (yieldE nt ps vs env) (yieldEnv nt ps vs env1)
  | [], vs, env, env1, h => by cases vs <;> exact h
  | p :: ps, [], env, env1, h => h
  | p :: ps, v :: vs, env, env1, h => ER.yield hn ps vs _ _ (h.put hn (some p) v)
theorem lenEq_len {α β : Type} : ∀ (a : List α) (b : List β), lenEq a b = true → a.length = b.length
  | [], [], _ => rfl
  | [], _ :: _, h => by cases h
  | _ :: _, [], h => by cases h
  | _ :: a, _ :: b, h => congrArg (· + 1) (lenEq_len a b h)

theorem raised_not {u : FrameMode} {ch : List PanicEntry} : notRun (raised u ch) = true := by unfold raised; split <;> rfl

/-- A frame that is left does not look at what was to be done. -/
theorem run_todo (X : Cx) (fns : Nat → Option Func) : ∀ (n : Nat) (fr : Fr) (t : List It) (u : FrameMode) (H : Hp), notRun fr.mode = true → run X fns n { fr with todo := t } u H = run X fns n fr u H
  | 0, fr, t, u, H, h => rfl
  | n + 1, fr, t, u, H, h => by
    have ih := run_todo X fns n
    obtain ⟨fn, env, nt, todo, defers, mode, kind, round⟩ := fr
    simp only at h
    have hb : ∀ t, run X fns (n + 1) ⟨fn, env, nt, t, defers, mode, kind, round⟩ u H = leaveA X fns (run X fns n) ⟨fn, env, nt, t, defers, mode, kind, round⟩ u H := by
      intro t
      cases mode with
      | run => cases h
      | returning => rfl
      | panicking c => rfl
    simp only
    rw [hb t, hb todo]
    unfold leaveA
    simp only
    split
    · rfl
    · split
      · split
        · exact ih ⟨fn, env, nt, todo, _, mode, kind, round⟩ t u _ h
        · rfl
      · congr 1; funext f; congr 1; funext c
        cases (Nat.ble _ _ && Nat.ble _ _) with
        | false => rfl
        | true =>
          simp only [cond_true]
          congr 1; funext p
          split
          · rename_i u' H'
            cases hq : notRun (settle u') with
            | false => rfl
            | true => exact ih ⟨fn, env, nt, todo, _, settle u', kind, round⟩ t u _ hq
          · rename_i ch u' H'
            exact ih ⟨fn, env, nt, todo, _, raised u' ch, kind, round⟩ t u _ raised_not
      · rfl

section
variable (C : Cy)

/-- A frame's run comes to this. -/
def Big (nt : Nat) (fc : Fc) (env : E2) (todo : List It) (ds : List Deferred) (mode u : FrameMode) (H : H2) (o : Out) : Prop :=
  nt ≤ 512 → ∀ env1 G, ER nt env env1 → HR H G → ∃ n G', run C.X C.fns n (FrOf fc nt env1 todo ds mode) u G = some (o.1, o.2.1, G') ∧ HR o.2.2 G'

/-- A region's rest, and what is behind it, come to this. -/
def RegBig (nt : Nat) (all os : List Oper) (fc : Fc) (k : List It) (env : E2) (ds : List Deferred) (u : FrameMode) (H : H2) (o : Out) : Prop :=
  nt ≤ 512 → ∀ e0 t0 d0 env1 G, ER nt env env1 → HR H G → ∃ n rr G', regU C.X C.fns (run C.X C.fns n) (FrOf fc nt e0 t0 d0 .run) all os env1 ds u G = some rr ∧
    regK (run C.X C.fns n) (FrOf fc nt e0 t0 d0 .run) k rr = some (o.1, o.2.1, G') ∧ HR o.2.2 G'

/-- An entry of a drawn region. -/
structure TeR (nt : Nat) (o : Oper) (e : Te2) (e1 : Te) : Prop where
  env : ER nt e.env e1.env
  v : e1.v = e.v
  w : e1.w = e.w
  quiet : e.w = true → quietOp C.X o.op = true → ∃ c, quietC C nt o = some c ∧ ∀ g, c = .pure g → g e.env = some e.v
inductive TesR (nt : Nat) : List Oper → List Te2 → List Te → Prop
  | nil : TesR nt [] [] []
  | cons {o : Oper} {e : Te2} {e1 : Te} {os : List Oper} {es : List Te2} {es1 : List Te} (h : TeR C nt o e e1) (t : TesR nt os es es1) : TesR nt (o :: os) (e :: es) (e1 :: es1)
inductive HRs : List H2 → List Hp → Prop
  | nil : HRs [] []
  | cons {H : H2} {G : Hp} {Hs : List H2} {Gs : List Hp} (h : HR H G) (t : HRs Hs Gs) : HRs (H :: Hs) (G :: Gs)

def TxBig (nt : Nat) (all os : List Oper) (i : Nat) (fc : Fc) (k : List It) (env : E2) (ds : List Deferred) (u : FrameMode) (base : Nat) (es : List Te2) (Gs : List H2) (H0 H : H2) (o : Out) : Prop :=
  nt ≤ 512 → base + all.length ≤ 262144 → ∀ pre e0 t0 env1 es1 Gs1 G0 G, all = pre ++ os → pre.length = i → TesR C nt pre es.reverse es1 → HRs Gs.reverse Gs1 → HR H0 G0 → ER nt env env1 → HR H G →
    ∃ n es' Gs' G2 G', tx C.X C.fns (run C.X C.fns n) (FrOf fc nt e0 t0 ds .run) u base all os i env1 G = some (es', Gs', G2) ∧
      ((all.all fun o => quietOp C.X o.op) || floatOk C.X all (es1 ++ es') (G0 :: (Gs1 ++ Gs')) (sameV 20)) = true ∧
      run C.X C.fns n (FrOf fc nt (lastEnv (FrOf fc nt e0 t0 ds .run) os es' env1) k ds .run) u G2 = some (o.1, o.2.1, G') ∧ HR o.2.2 G'

/-- What waits goes on with a call's end. -/
def KFR : KF → Out → Out → Prop
  | .reg nt all os d fc k env ds u, o, o2 => match o.1 with
    | .ret v => RegBig C nt all os fc k ((putD nt d).f env v) ds u o.2.2 o2
    | .pan chain => Big C nt fc env k ds (.panicking chain) u o.2.2 o2
  | .tx nt all os i d fc k env ds u base es Gs H0, o, o2 => match o.1 with
    | .ret v => TxBig C nt all os (i + 1) fc k ((putD nt d).f env v) ds u base (⟨env, v, true⟩ :: es) (o.2.2 :: Gs) H0 o.2.2 o2
    | .pan _ => False
  | .dfr nt fc env k ds u, o, o2 => match o.1 with
    | .ret _ => notRun (settle o.2.1) = true ∧ Big C nt fc env k ds (settle o.2.1) u o.2.2 o2
    | .pan chain => Big C nt fc env k ds (raised o.2.1 chain) u o.2.2 o2
  | .rng nt fc env k l ds u, o, o2 => match o.1 with
    | .ret _ => Big C nt fc env (.endRF l :: k) ds .run u o.2.2 o2
    | .pan chain => Big C nt fc env k ds (.panicking chain) u o.2.2 o2

def EvK : List KF → Out → Out → Prop
  | [], o, r => o = r
  | kf :: ks, o, r => ∃ o2, KFR C kf o o2 ∧ EvK ks o2 r

/-- A state comes to an end. -/
def EvS (s : St) (r : Out) : Prop := ∃ o, Big C s.nt s.fc s.env s.todo s.ds s.mode s.u s.H o ∧ EvK C s.ks o r
def Dn : Res → Out → Prop
  | .st s, r => EvS C s r
  | .fin e u H, r => r = (e, u, H)
  | .no, _ => False
def GoOk (go : Go) : Prop := ∀ nt fc env todo ds mode u H ks r, Dn C (go nt fc env todo ds mode u H ks) r → ∃ o, Big C nt fc env todo ds mode u H o ∧ EvK C ks o r

/-- Functions taken by a law of their own: the same in both. -/
def PrOk : Prop := (∀ g, C.prim g = none → C.X.prim g = none) ∧ ∀ g p, C.prim g = some p → ∃ p1, C.X.prim g = some p1 ∧ ∀ args H v H', p args H = some (v, H') → ∀ G, HR H G → ∃ G', p1 args G = some (v, G') ∧ HR H' G'
end

section
variable {C : Cy} {go : Go}

theorem Dn.someR {α : Type} {o : Option α} {k : α → Res} {r : Out} (h : Dn C (someR o k) r) : ∃ a, o = some a ∧ Dn C (k a) r := by
  cases o with
  | none => exact absurd h id
  | some a => exact ⟨a, rfl, h⟩
theorem Dn.boolR {v : Value} {k : Bool → Res} {r : Out} (h : Dn C (boolR v k) r) : ∃ b, v = .bool b ∧ Dn C (k b) r := by
  unfold Am.boolR at h
  split at h
  · exact ⟨_, rfl, h⟩
  · exact absurd h id
theorem Dn.bif {b : Bool} {x : Res} {r : Out} (h : Dn C (bif b then x else .no) r) : b = true ∧ Dn C x r := by
  cases b with
  | true => exact ⟨rfl, h⟩
  | false => exact absurd h id
theorem Dn.loopR {H : H2} {l : Nat} {k : ALoop2 → Res} {r : Out} (h : Dn C (loopR H l k) r) : ∃ a, H.get l = some (.loop a) ∧ Dn C (k a) r := by
  unfold Am.loopR at h
  split at h
  · exact ⟨_, by assumption, h⟩
  · exact absurd h id

/-- A call comes to this. -/
def CallOut (C : Cy) (fv : Value) (args : List Value) (H : H2) (e : En) (H' : H2) : Prop := ∀ G, HR H G → ∃ n G', callV C.X C.fns (run C.X C.fns n) fv args G = some (e, G') ∧ HR H' G'
def CallFOut (C : Cy) (g : FuncId) (args : List Value) (H : H2) (e : En) (H' : H2) : Prop := ∀ G, HR H G → ∃ n G', callF C.X C.fns (run C.X C.fns n) g args G = some (e, G') ∧ HR H' G'

theorem call2_ok (hG : GoOk C go) (hP : PrOk C) {g : FuncId} {args : List Value} {H : H2} {kf : KF} {ks : List KF} {done : Value → H2 → Res} {r : Out} (h : Dn C (call2 C go g args H kf ks done) r) :
    (∃ v H', CallFOut C g args H (.ret v) H' ∧ Dn C (done v H') r) ∨ ∃ o : Out, CallFOut C g args H o.1 o.2.2 ∧ EvK C (kf :: ks) o r := by
  unfold call2 calD at h
  split at h
  · rename_i p hp
    have hp : C.prim g = some p := by
      split at hp
      · rename_i p' hp'; cases hp; exact hp'
      · split at hp
        · split at hp
          · rename_i f c _ _
            exfalso; revert hp; cases Nat.ble _ _ <;> simp
          · cases hp
        · cases hp
    obtain ⟨⟨v, H'⟩, hv, h⟩ := h.someR
    obtain ⟨p1, h1, h2⟩ := hP.2 g p hp
    refine .inl ⟨v, H', fun G hG => ?_, h⟩
    obtain ⟨G', g1, g2⟩ := h2 _ _ _ _ hv G hG
    exact ⟨0, G', by simp only [callF, h1, g1, Option.map_some], g2⟩
  · rename_i nt c hp
    split at hp
    · cases hp
    · rename_i hpr
      split at hp
      · rename_i f hf
        split at hp
        · rename_i c' hb
          have hn : f.ntmps ≤ 512 ∧ nt = f.ntmps ∧ c = c' := by
            revert hp
            cases hb : Nat.ble f.ntmps 512 with
            | true => intro hp; simp only [cond_true, CalD.fn.injEq] at hp; exact ⟨le_of hb, hp.1.symm, hp.2.symm⟩
            | false => intro hp; cases hp
          obtain ⟨hn, rfl, rfl⟩ := hn
          obtain ⟨hl, h⟩ := h.bif
          have hl : args.length ≤ f.ntmps := by rw [← llen_eq]; exact le_of hl
          obtain ⟨o, hb1, hk⟩ := hG _ _ _ _ _ _ _ _ _ _ h
          refine .inr ⟨o, fun G hR => ?_, hk⟩
          obtain ⟨n, G', q1, q2⟩ := hb1 hn _ G (ER.args hn args 0 _ _ (by omega) (ER.start _)) hR
          refine ⟨n, G', ?_, q2⟩
          have hx := hP.1 g hpr
          simp only [callF, hx, hf, Option.bind_some, hb, ble_t hl, ble_t (show f.ntmps ≤ 65536 by omega), Bool.and_self, cond_true]
          rw [show enter g f c args .normal = FrOf ⟨g, .normal, none⟩ f.ntmps (putArgs 0 args .e) [.code c] [] .run from rfl, q1]
          rfl
        · cases hp
      · cases hp
  · exact absurd h id

theorem callV2_ok (hG : GoOk C go) (hP : PrOk C) {fv : Value} {args : List Value} {H : H2} {kf : KF} {ks : List KF} {done : Value → H2 → Res} {r : Out} (h : Dn C (callV2 C go fv args H kf ks done) r) :
    (∃ v H', CallOut C fv args H (.ret v) H' ∧ Dn C (done v H') r) ∨ ∃ o : Out, CallOut C fv args H o.1 o.2.2 ∧ EvK C (kf :: ks) o r := by
  unfold callV2 at h
  split at h
  · rename_i g first cap
    have he : lapp first (lapp args cap) = (⟨first⟩ : Array Value).toList ++ args ++ (⟨cap⟩ : Array Value).toList := by simp [lapp_eq]
    rw [he] at h
    rcases call2_ok hG hP h with ⟨v, H', h1, h2⟩ | ⟨o, h1, h2⟩
    · exact .inl ⟨v, H', fun G hR => h1 G hR, h2⟩
    · exact .inr ⟨o, fun G hR => h1 G hR, h2⟩
  · rename_i l cap
    obtain ⟨⟨s, p, fn, env, nt, ps, a, b, d⟩, hl, h⟩ := h.loopR
    obtain ⟨hlen, h⟩ := h.bif
    obtain ⟨o, hb1, hk⟩ := hG _ _ _ _ _ _ _ _ _ _ h
    refine .inr ⟨o, fun G hR => ?_, hk⟩
    have ho := hR.obs l
    rw [hl] at ho
    generalize hg : G.get l = x at ho
    cases ho
    rename_i env1 hn hE
    obtain ⟨n, G', q1, q2⟩ := hb1 hn _ G (ER.yield hn ps args _ _ hE) hR
    refine ⟨n, G', ?_, q2⟩
    have hle := lenEq_len _ _ hlen
    simp only [callV, List.size_toArray, List.length_nil, beq_t, cond_true, loopAt, hg, Option.bind_some, hle]
    rw [show ({ fn := fn, env := yieldEnv nt ps args env1, nt := nt, todo := [.code a, .beginRound, .code b], defers := [], mode := .run, kind := .normal, round := some l } : Fr) = FrOf ⟨fn, .normal, some l⟩ nt (yieldEnv nt ps args env1) [.code a, .beginRound, .code b] [] .run from rfl, q1]
    rfl
  · exact absurd h id

/-! How an operation goes. -/
theorem wayOf_op (hz : ZtOk C) {nt : Nat} {o : Oper} {c : OpC} (h : wayOf C nt o.op = .op c) : o.op.operands.toList.all opndOk = true ∧ ∃ a, OpOk nt c a ∧ (∀ rec fr u env1 G, opRes C.X C.fns rec fr u env1 G o = (a env1 G).map fun p => .val p.1 u p.2) ∧ ∀ env1 G, quietVal C.X o env1 G = (a env1 G).map (·.1) := by
  unfold wayOf at h
  cases hok : o.op.operands.toList.all opndOk with
  | false => rw [hok] at h; cases h
  | true =>
    rw [hok] at h
    simp only [cond_true] at h
    refine ⟨rfl, ?_⟩
    split at h
    · rename_i cl hop
      split at h
      · cases h
      · rename_i b hnr hcal
        cases h
        refine ⟨fun env1 G => builtinA C.X G b cl.argTypes.toList (cl.args.toList.map (opnd env1)), builtinC_ok hz b _ _, fun rec fr u env1 G => ?_, fun env1 G => ?_⟩
        · unfold opRes
          rw [hok]
          simp only [cond_true, hop, hcal] <;> (cases b <;> first | rfl | exact absurd rfl hnr)
        · unfold quietVal
          rw [hop]
          obtain ⟨cal, as, ts⟩ := cl
          simp only at hcal
          subst hcal
          rfl
      · cases h
      · cases h
    · split at h <;> cases h
    · cases h
    · rename_i h1 h2 h3
      cases h
      refine ⟨fun env1 G => aop C.X o (opnd env1) G, aopC_ok hz o, fun rec fr u env1 G => ?_, fun env1 G => ?_⟩
      · unfold opRes
        rw [hok]
        simp only [cond_true] <;> (cases hop : o.op <;> first | rfl | exact absurd hop (h1 _) | exact absurd hop (h2 _) | exact absurd hop (h3 _))
      · unfold quietVal
        split
        · rename_i hop; exact absurd hop (h1 _)
        · rfl

theorem wayOf_call {nt : Nat} {o : Oper} {fv : G E2 Value} {args : List (G E2 Value)} (h : wayOf C nt o.op = .call fv args) : ∃ (f : Operand) (al : List Operand), fv = opG nt f ∧ args = al.map (opG nt) ∧
    ∀ rec fr u env1 G, opRes C.X C.fns rec fr u env1 G o = (callV C.X C.fns rec (opnd env1 f) (al.map (opnd env1)) G).map fun | (.ret v, H) => .val v u H | (.pan chain, H) => .pan chain u H := by
  unfold wayOf at h
  cases hok : o.op.operands.toList.all opndOk with
  | false => rw [hok] at h; cases h
  | true =>
    rw [hok] at h
    simp only [cond_true] at h
    split at h
    · rename_i cl hop
      split at h
      · cases h
      · cases h
      · rename_i f hcal
        cases h
        refine ⟨f, cl.args.toList, rfl, rfl, fun rec fr u env1 G => ?_⟩
        unfold opRes
        rw [hok]
        simp only [cond_true, hop, hcal]
        rfl
      · cases h
    · split at h <;> cases h
    · cases h
    · cases h

theorem wayOf_recov {nt : Nat} {o : Oper} (h : wayOf C nt o.op = .recov) : ∀ rec fr u env1 G, opRes C.X C.fns rec fr u env1 G o = (recoverA fr u).map fun (v, u) => .val v u G := by
  unfold wayOf at h
  cases hok : o.op.operands.toList.all opndOk with
  | false => rw [hok] at h; cases h
  | true =>
    rw [hok] at h
    simp only [cond_true] at h
    split at h
    · rename_i cl hop
      split at h
      · rename_i hcal
        intro rec fr u env1 G
        unfold opRes
        rw [hok]
        simp only [cond_true, hop, hcal]
      · cases h
      · cases h
      · cases h
    · split at h <;> cases h
    · cases h
    · cases h

theorem wayOf_dfr {nt : Nat} {o : Oper} {fv : G E2 Value} {args : List (G E2 Value)} (h : wayOf C nt o.op = .dfr fv args) : ∃ (f : Operand) (al : List Operand), fv = opG nt f ∧ args = al.map (opG nt) ∧
    ∀ rec fr u env1 G, opRes C.X C.fns rec fr u env1 G o = match fr.round with
      | none => match opnd env1 f with
        | .func (.func g) first cap => some (.dfr { target := .fn (.func g) cap, args := ⟨first.toList ++ al.map (opnd env1)⟩ })
        | _ => none
      | _ => none := by
  unfold wayOf at h
  cases hok : o.op.operands.toList.all opndOk with
  | false => rw [hok] at h; cases h
  | true =>
    rw [hok] at h
    simp only [cond_true] at h
    split at h
    · split at h <;> cases h
    · rename_i cl hop
      split at h
      · rename_i f hcal
        cases h
        refine ⟨f, cl.args.toList, rfl, rfl, fun rec fr u env1 G => ?_⟩
        unfold opRes
        rw [hok]
        simp only [cond_true, hop, hcal]
        cases fr.round <;> rfl
      · cases h
    · cases h
    · cases h

theorem wayOf_panic {nt : Nat} {o : Oper} {x : G E2 Value} (h : wayOf C nt o.op = .panic x) : ∃ f : Operand, x = opG nt f ∧
    ∀ rec fr u env1 G, opRes C.X C.fns rec fr u env1 G o = match opnd env1 f with
      | .iface t v => some (.pan [{ v := .iface t v, recovered := false }] u G)
      | _ => none := by
  unfold wayOf at h
  cases hok : o.op.operands.toList.all opndOk with
  | false => rw [hok] at h; cases h
  | true =>
    rw [hok] at h
    simp only [cond_true] at h
    split at h
    · split at h <;> cases h
    · split at h <;> cases h
    · rename_i f hop
      cases h
      refine ⟨f, rfl, fun rec fr u env1 G => ?_⟩
      unfold opRes
      rw [hok]
      simp only [cond_true, hop]
      rfl
    · cases h

theorem recover2_ok {fc : Fc} {u : FrameMode} {p : Value × FrameMode} (h : recover2 fc u = some p) {nt : Nat} {env : Env} {todo : List It} {ds : List Deferred} {mode : FrameMode} : recoverA (FrOf fc nt env todo ds mode) u = some p := h

theorem wantG_ok {nt : Nat} {all : List Oper} {o : Oper} {env : E2} {env1 : Env} (hE : ER nt env env1) : wantedA all env1 o = match guardG nt all o with
    | none => true
    | some (g, want) => wantK (g.f env) want := by
  unfold wantedA guardG yieldedA
  cases hg : o.guard with
  | none => rfl
  | some p =>
    obtain ⟨j, want⟩ := p
    simp only [lget_eq]
    cases hj : all[j]? with
    | none => rfl
    | some q =>
      simp only [Option.bind_some]
      cases hd : q.dst with
      | none => rfl
      | some d =>
        simp only [Option.bind_some]
        rw [opG_eq hE]
        show ((match env1.val d with | .bool b => some b | _ => none : Option Bool) == some want) = wantK (env1.val d) want
        unfold wantK
        cases env1.val d <;> rfl

/-- A region's rest, joined. -/
theorem RegBig.next {nt : Nat} {all : List Oper} {o : Oper} {os : List Oper} {fc : Fc} {k : List It} {env env' : E2} {ds ds' : List Deferred} {u u' : FrameMode} {H H' : H2} {r : Out}
    (h : nt ≤ 512 → ∀ e0 t0 d0 env1 G, ER nt env env1 → HR H G → ∃ n env1' G1, ER nt env' env1' ∧ HR H' G1 ∧
      ∀ m, n ≤ m → regU C.X C.fns (run C.X C.fns m) (FrOf fc nt e0 t0 d0 .run) all (o :: os) env1 ds u G = regU C.X C.fns (run C.X C.fns m) (FrOf fc nt e0 t0 d0 .run) all os env1' ds' u' G1)
    (hb : RegBig C nt all os fc k env' ds' u' H' r) : RegBig C nt all (o :: os) fc k env ds u H r := by
  intro hn e0 t0 d0 env1 G hE hR
  obtain ⟨n, env1', G1, hE', hR', he⟩ := h hn e0 t0 d0 env1 G hE hR
  obtain ⟨m, rr, G', q1, q2, q3⟩ := hb hn e0 t0 d0 env1' G1 hE' hR'
  refine ⟨max n m, rr, G', ?_, ?_, q3⟩
  · rw [he _ (Nat.le_max_left _ _)]
    exact regU_le (run_mono C.X C.fns (Nat.le_max_right n m)) _ _ _ _ _ _ _ _ q1
  · exact regK_le (run_mono C.X C.fns (Nat.le_max_right n m)) _ _ _ _ q2

theorem regU_val {fr : Fr} {rec : Rec} {all os : List Oper} {o : Oper} {env1 : Env} {ds : List Deferred} {u u' : FrameMode} {G G1 : Hp} {v : Value} (hw : wantedA all env1 o = true) (h : opRes C.X C.fns rec fr u env1 G o = some (.val v u' G1)) :
    regU C.X C.fns rec fr all (o :: os) env1 ds u G = regU C.X C.fns rec fr all os (env1.put fr.nt o.dst v) ds u' G1 := by
  conv => lhs; unfold regU
  rw [hw]; simp only [cond_true, h, Option.bind_some]
theorem regU_skip {fr : Fr} {rec : Rec} {all os : List Oper} {o : Oper} {env1 : Env} {ds : List Deferred} {u : FrameMode} {G : Hp} (hw : wantedA all env1 o = false) :
    regU C.X C.fns rec fr all (o :: os) env1 ds u G = regU C.X C.fns rec fr all os (env1.put fr.nt o.dst undef) ds u G := by
  conv => lhs; unfold regU
  rw [hw]; rfl

/-- One operation of a region. -/
theorem opReg_ok (hG : GoOk C go) (hP : PrOk C) (hz : ZtOk C) {nt : Nat} {all os : List Oper} {o : Oper} {fc : Fc} {k : List It} {env : E2} {ds : List Deferred} {u : FrameMode} {H : H2} {ks : List KF} {r : Out}
    (ih : ∀ env ds u H, Dn C ((regF C nt all os).f go fc k env ds u H ks) r → ∃ q, RegBig C nt all os fc k env ds u H q ∧ EvK C ks q r)
    (hw : ∀ env1, ER nt env env1 → wantedA all env1 o = true)
    (h : Dn C ((opReg C nt all os (wayOf C nt o.op) o.dst (putD nt o.dst) (regF C nt all os)).f go fc k env ds u H ks) r) : ∃ q, RegBig C nt all (o :: os) fc k env ds u H q ∧ EvK C ks q r := by
  unfold opReg at h
  have hval : ∀ {c : OpC} {v : Value} {H' : H2}, wayOf C nt o.op = .op c → c.run env H = some (v, H') → Dn C ((regF C nt all os).f go fc k ((putD nt o.dst).f env v) ds u H' ks) r → ∃ q, RegBig C nt all (o :: os) fc k env ds u H q ∧ EvK C ks q r := by
    intro c v H' hway hrun h
    obtain ⟨_, a, hok, hres, _⟩ := wayOf_op hz hway
    obtain ⟨q, hb, hk⟩ := ih _ _ _ _ h
    refine ⟨q, RegBig.next (fun hn e0 t0 d0 env1 G hE hR => ?_) hb, hk⟩
    obtain ⟨G', g1, g2⟩ := hok env env1 H G v H' hE hR hrun
    exact ⟨0, _, G', hE.put hn o.dst v, g2, fun m _ => regU_val (hw env1 hE) (by rw [hres, g1]; rfl)⟩
  split at h
  · rename_i g hway
    obtain ⟨v, hv, h⟩ := h.someR
    exact hval hway (by simp only [OpC.run, hv]; rfl) h
  · rename_i g hway
    obtain ⟨v, hv, h⟩ := h.someR
    exact hval hway (by simp only [OpC.run, hv]; rfl) h
  · rename_i g hway
    obtain ⟨⟨v, H'⟩, hv, h⟩ := h.someR
    exact hval hway (by simp only [OpC.run, hv]) h
  · rename_i fv args hway
    obtain ⟨f, al, rfl, rfl, hres⟩ := wayOf_call hway
    rcases callV2_ok hG hP h with ⟨v, H', h1, h⟩ | ⟨o1, h1, h⟩
    · obtain ⟨q, hb, hk⟩ := ih _ _ _ _ h
      refine ⟨q, RegBig.next (fun hn e0 t0 d0 env1 G hE hR => ?_) hb, hk⟩
      obtain ⟨n, G', g1, g2⟩ := h1 G hR
      rw [opG_eq hE, vals_eq hE] at g1
      exact ⟨n, _, G', hE.put hn o.dst v, g2, fun m hm => regU_val (hw env1 hE) (by rw [hres, callV_le (run_mono C.X C.fns hm) _ _ _ _ g1]; rfl)⟩
    · obtain ⟨q, hkf, hk⟩ := h
      refine ⟨q, ?_, hk⟩
      cases he : o1.1 with
      | ret v =>
        simp only [KFR, he] at hkf
        refine RegBig.next (fun hn e0 t0 d0 env1 G hE hR => ?_) hkf
        obtain ⟨n, G', g1, g2⟩ := h1 G hR
        rw [opG_eq hE, vals_eq hE, he] at g1
        exact ⟨n, _, G', hE.put hn o.dst v, g2, fun m hm => regU_val (hw env1 hE) (by rw [hres, callV_le (run_mono C.X C.fns hm) _ _ _ _ g1]; rfl)⟩
      | pan ch =>
        simp only [KFR, he] at hkf
        intro hn e0 t0 d0 env1 G hE hR
        obtain ⟨n, G1, g1, g2⟩ := h1 G hR
        rw [opG_eq hE, vals_eq hE, he] at g1
        obtain ⟨m, G', q1, q2⟩ := hkf hn env1 G1 hE g2
        refine ⟨max n m, .pan ch env1 ds u G1, G', ?_, ?_, q2⟩
        · unfold regU
          rw [hw env1 hE]
          simp only [cond_true]
          rw [hres, callV_le (run_mono C.X C.fns (Nat.le_max_left n m)) _ _ _ _ g1]
          rfl
        · have q1' := run_mono C.X C.fns (Nat.le_max_right n m) _ _ _ _ q1
          rw [← q1']
          exact (run_todo C.X C.fns _ (FrOf fc nt env1 k ds (.panicking ch)) t0 u G1 rfl)
  · rename_i hway
    obtain ⟨p, hp, h⟩ := h.someR
    obtain ⟨q, hb, hk⟩ := ih _ _ _ _ h
    refine ⟨q, RegBig.next (fun hn e0 t0 d0 env1 G hE hR => ?_) hb, hk⟩
    exact ⟨0, _, G, hE.put hn o.dst p.1, hR, fun m _ => regU_val (hw env1 hE) (by rw [wayOf_recov hway, recover2_ok hp]; rfl)⟩
  · rename_i fv args hway
    obtain ⟨f, al, rfl, rfl, hres⟩ := wayOf_dfr hway
    simp only at h
    split at h
    · rename_i g first cap hrd hfv
      obtain ⟨q, hb, hk⟩ := ih _ _ _ _ h
      refine ⟨q, fun hn e0 t0 d0 env1 G hE hR => ?_, hk⟩
      obtain ⟨n, rr, G', q1, q2, q3⟩ := hb hn e0 t0 d0 _ G (hE.put hn o.dst undef) hR
      refine ⟨n, rr, G', ?_, q2, q3⟩
      rw [← q1]
      conv => lhs; unfold regU
      rw [hw env1 hE]
      rw [opG_eq hE] at hfv
      have hr0 : (FrOf fc nt e0 t0 d0 .run).round = none := hrd
      simp only [cond_true, hres, hr0, hfv, Option.bind_some, lapp_eq, vals_eq hE]
      rfl
    · exact absurd h id
  · rename_i x hway
    obtain ⟨f, rfl, hres⟩ := wayOf_panic hway
    simp only at h
    split at h
    · rename_i t v hx
      obtain ⟨q, hb, hk⟩ := hG _ _ _ _ _ _ _ _ _ _ h
      refine ⟨q, fun hn e0 t0 d0 env1 G hE hR => ?_, hk⟩
      obtain ⟨m, G', q1, q2⟩ := hb hn env1 G hE hR
      rw [opG_eq hE] at hx
      refine ⟨m, .pan [{ v := .iface t v, recovered := false }] env1 ds u G, G', ?_, ?_, q2⟩
      · unfold regU
        rw [hw env1 hE]
        simp only [cond_true, hres, hx, Option.bind_some]
      · rw [← q1]
        exact (run_todo C.X C.fns _ (FrOf fc nt env1 k ds (.panicking [{ v := .iface t v, recovered := false }])) t0 u G rfl)
    · exact absurd h id
  · exact absurd h id
end
end Go.Am
