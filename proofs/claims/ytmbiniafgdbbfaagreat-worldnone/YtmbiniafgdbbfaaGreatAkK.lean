/- The fast machine: its control is the abstract machine's. Code; frames that are left; the run. -/
import Derived.Test.YtmbiniafgdbbfaaGreatAkJ
set_option linter.unusedSimpArgs false
set_option linter.unusedVariables false
set_option linter.unusedVariables false
namespace Go.Am

section
variable {C : Cy} {go : Go}

theorem Big.step {nt : Nat} {fc : Fc} {env : E2} {todo todo' : List It} {ds ds' : List Deferred} {mode mode' u : FrameMode} {H : H2} {q : Out}
    (h : ∀ rec env1 G, ER nt env env1 → HR H G → runBody C.X C.fns rec (FrOf fc nt env1 todo ds mode) u G = rec (FrOf fc nt env1 todo' ds' mode') u G)
    (hb : Big C nt fc env todo' ds' mode' u H q) : Big C nt fc env todo ds mode u H q := by
  intro hn env1 G hE hR
  obtain ⟨n, G', a, b⟩ := hb hn env1 G hE hR
  exact ⟨n + 1, G', (h _ env1 G hE hR).trans a, b⟩

/-- A body's way out. -/
def leaveM (rec : Rec) (fr : Fr) (u : FrameMode) (H : Hp) (jump : Option Code) : Option (En × FrameMode × Hp) := match fr.round with
  | none => match jump with
    | none | some .ret => rec { fr with mode := .returning } u H
    | _ => none
  | some l => (loopAt H l).map fun r => (.ret (.bool jump.isNone), u, H.set l (.loop { r with state := bif jump.isNone then .ready else .done, pending := jump }))

theorem OR.loop_inv {a : ALoop2} {p : Option Ob} (h : OR (some (.loop a)) p) : ∃ env1, p = some (.loop ⟨a.state, a.pending, a.fn, env1, a.nt, a.params, a.assign, a.body, a.defers⟩) ∧ ER a.nt a.env env1 ∧ a.nt ≤ 512 := by
  cases h with
  | loop h hn => exact ⟨_, rfl, h, hn⟩

theorem jumpOut_ok (hG : GoOk C go) (hP : PrOk C) (hz : ZtOk C) {nt : Nat} {fc : Fc} {env : E2} {k : List It} {ds : List Deferred} {u : FrameMode} {H : H2} {ks : List KF} {jump : Option Code} {r : Out} (h : Dn C (jumpOut C go nt fc env k ds u H ks jump) r) :
    ∃ q, (∀ todo, (∀ rec env1 G, runBody C.X C.fns rec (FrOf fc nt env1 todo ds .run) u G = leaveM rec (FrOf fc nt env1 todo ds .run) u G jump) → Big C nt fc env todo ds .run u H q) ∧ EvK C ks q r := by
  unfold jumpOut at h
  obtain ⟨ffn, fkind, frd⟩ := fc
  split at h
  · rename_i hrd
    simp only at hrd
    subst hrd
    have go1 : ∀ {r}, (jump = none ∨ jump = some .ret) → Dn C (go nt ⟨ffn, fkind, none⟩ env k ds .returning u H ks) r → ∃ q, (∀ todo, (∀ rec env1 G, runBody C.X C.fns rec (FrOf ⟨ffn, fkind, none⟩ nt env1 todo ds .run) u G = leaveM rec (FrOf ⟨ffn, fkind, none⟩ nt env1 todo ds .run) u G jump) → Big C nt ⟨ffn, fkind, none⟩ env todo ds .run u H q) ∧ EvK C ks q r := by
      intro r hj h
      obtain ⟨q, hb, hk⟩ := hG _ _ _ _ _ _ _ _ _ _ h
      refine ⟨q, fun todo ht => ?_, hk⟩
      intro hn env1 G hE hR
      obtain ⟨n, G', a, b⟩ := hb hn env1 G hE hR
      refine ⟨n + 1, G', ?_, b⟩
      show runBody C.X C.fns (run C.X C.fns n) _ u G = _
      rw [ht]
      rw [← a]
      rcases hj with rfl | rfl
      · exact run_todo C.X C.fns n (FrOf ⟨ffn, fkind, none⟩ nt env1 k ds .returning) todo u G rfl
      · exact run_todo C.X C.fns n (FrOf ⟨ffn, fkind, none⟩ nt env1 k ds .returning) todo u G rfl
    split at h
    · exact go1 (.inl rfl) h
    · exact go1 (.inr rfl) h
    · exact absurd h id
  · rename_i l hrd
    simp only at hrd
    subst hrd
    obtain ⟨⟨s, p, a, b, c, d, e, f, g⟩, hl, h⟩ := h.loopR
    have hlt := H2.get_lt hl
    refine ⟨_, fun todo ht => ?_, ret_ok2 hG hP hz h⟩
    intro hn env1 G hE hR
    have ho := hR.obs l
    rw [hl] at ho
    obtain ⟨env2, hg, hE2, hn2⟩ := ho.loop_inv
    refine ⟨1, _, ?_, hR.set hlt (.loop (env1 := env2) hE2 hn2)⟩
    show runBody C.X C.fns (run C.X C.fns 0) _ u G = _
    rw [ht]
    unfold leaveM FrOf
    simp only [loopAt, hg, Option.map_some]

theorem exit2_eq (id : Nat) (k : List It) (yes : List It → Res) (alt : Res) : exit2 id k yes alt = match exitA id k with
    | some k' => yes k'
    | none => alt := by
  induction k with
  | nil => rfl
  | cons i k ih =>
    cases i with
    | inBlock id' =>
      show (bif Nat.beq id' id then yes k else exit2 id k yes alt) = _
      unfold exitA
      cases Nat.beq id' id with
      | true => rfl
      | false => exact ih
    | _ => exact ih

theorem rangeF_ok (hG : GoOk C go) (hP : PrOk C) {nt : Nat} {f : Operand} {ps : Array Tmp} {assign body : Code} (hf : opndOk f = true) {fc : Fc} {k : List It} {env : E2} {ds : List Deferred} {u : FrameMode} {H : H2} {ks : List KF} {r : Out}
    (h : Dn C ((rangeF C nt f ps.toList assign body).f go fc k env ds u H ks) r) : ∃ q, Big C nt fc env (.code (.rangeFunc f ps assign body) :: k) ds .run u H q ∧ EvK C ks q r := by
  obtain ⟨ffn, fkind, frd⟩ := fc
  have rest : ∀ (d : Nat) (mark : List Deferred) (H1 : H2) (l : Nat) (H3 : H2) (r : Out),
      (∀ G env1, ER nt env env1 → nt ≤ 512 → HR H G → ∃ G1 G3, (match frd with
          | some l => (loopAt G l).map fun (r : ALoop) => (r.defers, ([] : List Deferred), G)
          | none => (G.alloc (.deferred (some []))).map fun x => (x.1, [({ target := .collected x.1, args := #[] } : Deferred)], x.2)) = some (d, mark, G1) ∧
        G1.alloc (.loop { state := .ready, pending := none, fn := ffn, env := env1, nt := nt, params := ps.toList, assign, body, defers := d }) = some (l, G3) ∧ HR H3 G3) →
      Dn C (match (opG nt f).f env with
        | .func (.func g) ⟨first⟩ ⟨cap⟩ => call2 C go g (lapp first (Value.func (.yield l) #[] #[] :: cap)) H3 (.rng nt ⟨ffn, fkind, frd⟩ env k l (mark ++ ds) u) ks fun _ H => go nt ⟨ffn, fkind, frd⟩ env (.endRF l :: k) (mark ++ ds) .run u H ks
        | _ => .no) r → ∃ q, Big C nt ⟨ffn, fkind, frd⟩ env (.code (.rangeFunc f ps assign body) :: k) ds .run u H q ∧ EvK C ks q r := by
    intro d mark H1 l H3 r hall h
    split at h
    · rename_i g first cap hfv
      have he : lapp first (Value.func (.yield l) #[] #[] :: cap) = (⟨first⟩ : Array Value).toList ++ [Value.func (.yield l) #[] #[]] ++ (⟨cap⟩ : Array Value).toList := by simp [lapp_eq]
      rw [he] at h
      have key : ∀ (e : En) (H4 : H2), CallFOut C g ((⟨first⟩ : Array Value).toList ++ [Value.func (.yield l) #[] #[]] ++ (⟨cap⟩ : Array Value).toList) H3 e H4 → ∀ q,
          (match e with
            | .ret _ => Big C nt ⟨ffn, fkind, frd⟩ env (.endRF l :: k) (mark ++ ds) .run u H4 q
            | .pan chain => Big C nt ⟨ffn, fkind, frd⟩ env k (mark ++ ds) (.panicking chain) u H4 q) → Big C nt ⟨ffn, fkind, frd⟩ env (.code (.rangeFunc f ps assign body) :: k) ds .run u H q := by
        intro e H4 h1 q hb hn env1 G hE hR
        obtain ⟨G1, G3, a1, a2, a3⟩ := hall G env1 hE hn hR
        obtain ⟨n, G4, c1, c2⟩ := h1 G3 a3
        have hfe : opnd env1 f = .func (.func g) ⟨first⟩ ⟨cap⟩ := by rw [← opG_eq hE]; exact hfv
        cases e with
        | ret v =>
          obtain ⟨m, G', b1, b2⟩ := hb hn env1 G4 hE c2
          refine ⟨max n m + 1, G', ?_, b2⟩
          show runBody C.X C.fns (run C.X C.fns (max n m)) _ u G = _
          have c1' := callF_le (run_mono C.X C.fns (Nat.le_max_left n m)) _ _ _ _ c1
          have b1' := run_mono C.X C.fns (Nat.le_max_right n m) _ _ _ _ b1
          cases frd <;>
          · unfold runBody FrOf
            simp only at a1 a2 ⊢
            rw [a1]
            simp only [Option.bind_some]
            rw [a2]
            simp only [Option.bind_some, hf, cond_true, hfe]
            rw [c1']
            exact b1'
        | pan ch =>
          obtain ⟨m, G', b1, b2⟩ := hb hn env1 G4 hE c2
          refine ⟨max n m + 1, G', ?_, b2⟩
          show runBody C.X C.fns (run C.X C.fns (max n m)) _ u G = _
          have c1' := callF_le (run_mono C.X C.fns (Nat.le_max_left n m)) _ _ _ _ c1
          have b1' := run_mono C.X C.fns (Nat.le_max_right n m) _ _ _ _ b1
          cases frd <;>
          · unfold runBody FrOf
            simp only at a1 a2 ⊢
            rw [a1]
            simp only [Option.bind_some]
            rw [a2]
            simp only [Option.bind_some, hf, cond_true, hfe]
            rw [c1']
            exact (run_todo C.X C.fns _ (FrOf ⟨ffn, fkind, _⟩ nt env1 k (mark ++ ds) (.panicking ch)) _ u G4 rfl).trans b1'
      rcases call2_ok hG hP h with ⟨v, H4, h1, h⟩ | ⟨o, h1, h⟩
      · obtain ⟨q, hb, hk⟩ := hG _ _ _ _ _ _ _ _ _ _ h
        exact ⟨q, key _ _ h1 q hb, hk⟩
      · obtain ⟨q, hkf, hk⟩ := h
        refine ⟨q, key o.1 o.2.2 h1 q ?_, hk⟩
        cases he : o.1 with
        | ret v => simp only [KFR, he] at hkf; exact hkf
        | pan ch => simp only [KFR, he] at hkf; exact hkf
    · exact absurd h id
  unfold rangeF at h
  simp only at h
  split at h
  · rename_i l0
    obtain ⟨⟨s, p, a, b, c, d, e, f', g⟩, hl, h⟩ := h.loopR
    obtain ⟨⟨l, H3⟩, hal, h⟩ := h.someR
    refine rest g [] H l H3 r (fun G env1 hE hn hR => ?_) h
    have ho := hR.obs l0
    rw [hl] at ho
    obtain ⟨env2, hg, hE2, hn2⟩ := ho.loop_inv
    obtain ⟨H', G3, k1, k2, k3⟩ := hR.alloc hal (OR.loop (env1 := env1) hE hn)
    simp only [Option.some.injEq, Prod.mk.injEq] at k1
    obtain ⟨rfl, rfl⟩ := k1
    exact ⟨G, G3, by simp only [loopAt, hg, Option.map_some], k2, k3⟩
  · obtain ⟨⟨d, l, H3⟩, hal, h⟩ := h.someR
    refine rest d [{ target := .collected d, args := #[] }] H l H3 r (fun G env1 hE hn hR => ?_) h
    obtain ⟨H1, G1, k1, k2, k3⟩ := hR.alloc hal (OR.deferred (some []))
    obtain ⟨H', G3, j1, j2, j3⟩ := k3.alloc k1 (OR.loop (env1 := env1) hE hn)
    simp only [Option.some.injEq, Prod.mk.injEq] at j1
    obtain ⟨rfl, rfl, rfl⟩ := j1
    exact ⟨G1, G3, by simp only [k2, Option.map_some], j2, j3⟩

theorem comp_ok (hG : GoOk C go) (hP : PrOk C) (hz : ZtOk C) {nt : Nat} {fc : Fc} {ks : List KF} {r : Out} : ∀ (c : Code) (k : List It) (env : E2) (ds : List Deferred) (u : FrameMode) (H : H2),
    Dn C ((comp C nt c).f go fc k env ds u H ks) r → ∃ q, Big C nt fc env (.code c :: k) ds .run u H q ∧ EvK C ks q r := by
  intro c
  induction c with
  | skip =>
    intro k env ds u H h
    obtain ⟨q, hb, hk⟩ := hG _ _ _ _ _ _ _ _ _ _ h
    exact ⟨q, hb.step fun _ _ _ _ _ => rfl, hk⟩
  | label l =>
    intro k env ds u H h
    obtain ⟨q, hb, hk⟩ := hG _ _ _ _ _ _ _ _ _ _ h
    exact ⟨q, hb.step fun _ _ _ _ _ => rfl, hk⟩
  | seq a b iha ihb =>
    intro k env ds u H h
    have h : Dn C ((comp C nt a).f go fc (.code b :: k) env ds u H ks) r := by
      unfold comp at h
      generalize comp C nt a = x at h ⊢
      cases x; exact h
    obtain ⟨q, hb, hk⟩ := iha _ _ _ _ _ h
    exact ⟨q, hb.step fun _ _ _ _ _ => rfl, hk⟩
  | cond c x y ihx ihy =>
    intro k env ds u H h
    unfold comp at h
    cases hc : opndOk c with
    | false => rw [hc] at h; exact absurd h id
    | true =>
      rw [hc] at h
      simp only [cond_true] at h
      have h : Dn C (boolR ((opG nt c).f env) fun t => bif t then (comp C nt x).f go fc k env ds u H ks else (comp C nt y).f go fc k env ds u H ks) r := by
        generalize opG nt c = x at h ⊢
        cases x; exact h
      obtain ⟨t, ht, h⟩ := h.boolR
      cases t with
      | true =>
        obtain ⟨q, hb, hk⟩ := ihx _ _ _ _ _ h
        refine ⟨q, hb.step fun rec env1 G hE hR => ?_, hk⟩
        rw [opG_eq hE] at ht
        unfold runBody FrOf
        simp only [hc, cond_true, ht]
      | false =>
        obtain ⟨q, hb, hk⟩ := ihy _ _ _ _ _ h
        refine ⟨q, hb.step fun rec env1 G hE hR => ?_, hk⟩
        rw [opG_eq hE] at ht
        unfold runBody FrOf
        simp only [hc, cond_true, ht, cond_false]
  | block id b ih =>
    intro k env ds u H h
    have h : Dn C ((comp C nt b).f go fc (.inBlock id :: k) env ds u H ks) r := by
      unfold comp at h
      generalize comp C nt b = x at h ⊢
      cases x; exact h
    obtain ⟨q, hb, hk⟩ := ih _ _ _ _ _ h
    exact ⟨q, hb.step fun _ _ _ _ _ => rfl, hk⟩
  | loop b ih =>
    intro k env ds u H h
    obtain ⟨q, hb, hk⟩ := hG _ _ _ _ _ _ _ _ _ _ h
    exact ⟨q, hb.step fun _ _ _ _ _ => rfl, hk⟩
  | exit id =>
    intro k env ds u H h
    have h : Dn C (exit2 id k (fun k' => go nt fc env k' ds .run u H ks) (jumpOut C go nt fc env k ds u H ks (some (.exit id)))) r := h
    rw [exit2_eq] at h
    split at h
    · rename_i k' he
      obtain ⟨q, hb, hk⟩ := hG _ _ _ _ _ _ _ _ _ _ h
      refine ⟨q, hb.step fun rec env1 G hE hR => ?_, hk⟩
      unfold runBody FrOf
      simp only [he]
    · rename_i he
      obtain ⟨q, hb, hk⟩ := jumpOut_ok hG hP hz h
      refine ⟨q, hb _ fun rec env1 G => ?_, hk⟩
      unfold runBody leaveM FrOf
      simp only [he]
      obtain ⟨ffn, fkind, frd⟩ := fc
      cases frd <;> rfl
  | ret =>
    intro k env ds u H h
    have h : Dn C (jumpOut C go nt fc env k ds u H ks (some .ret)) r := h
    obtain ⟨q, hb, hk⟩ := jumpOut_ok hG hP hz h
    exact ⟨q, hb _ fun rec env1 G => rfl, hk⟩
  | region id ops draw =>
    intro k env ds u H h
    unfold comp at h
    cases draw with
    | true =>
      obtain ⟨q, hb, hk⟩ := regD2_ok hG hP hz h
      refine ⟨q, fun hn env1 G hE hR => ?_, hk⟩
      obtain ⟨n, rr, G', a, b, c⟩ := hb hn (.code (.region id ops true) :: k) env1 G hE hR
      refine ⟨n + 1, G', ?_, c⟩
      show runBody C.X C.fns (run C.X C.fns n) _ u G = _
      unfold runBody
      rw [← b]
      simp only [FrOf] at a ⊢
      simp only [cond_true]
      rw [a]
      cases rr <;> rfl
    | false =>
      obtain ⟨q, hb, hk⟩ := regF_ok hG hP hz _ _ _ _ _ h
      refine ⟨q, fun hn env1 G hE hR => ?_, hk⟩
      obtain ⟨n, rr, G', a, b, c⟩ := hb hn env1 (.code (.region id ops false) :: k) ds env1 G hE hR
      refine ⟨n + 1, G', ?_, c⟩
      show runBody C.X C.fns (run C.X C.fns n) _ u G = _
      unfold runBody
      rw [← b]
      simp only [FrOf] at a ⊢
      simp only [cond_false]
      rw [a]
      cases rr <;> rfl
  | rangeFunc f ps assign body iha ihb =>
    intro k env ds u H h
    unfold comp at h
    cases hf : opndOk f with
    | false => rw [hf] at h; exact absurd h id
    | true => rw [hf] at h; exact rangeF_ok hG hP hf h
  | scope b ih => intro k env ds u H h; exact absurd h id
  | goto l => intro k env ds u H h; exact absurd h id
  | refuse w => intro k env ds u H h; exact absurd h id

theorem item_ok (hG : GoOk C go) (hP : PrOk C) (hz : ZtOk C) {nt : Nat} {fc : Fc} {env : E2} {ds : List Deferred} {u : FrameMode} {H : H2} {ks : List KF} {i : It} {k : List It} {r : Out} (h : Dn C (item C go nt fc env ds u H ks i k) r) :
    ∃ q, Big C nt fc env (i :: k) ds .run u H q ∧ EvK C ks q r := by
  unfold item at h
  split at h
  · exact comp_ok hG hP hz _ _ _ _ _ _ h
  · obtain ⟨q, hb, hk⟩ := hG _ _ _ _ _ _ _ _ _ _ h
    exact ⟨q, hb.step fun _ _ _ _ _ => rfl, hk⟩
  · obtain ⟨q, hb, hk⟩ := comp_ok hG hP hz _ _ _ _ _ _ h
    exact ⟨q, hb.step fun _ _ _ _ _ => rfl, hk⟩
  · exact absurd h id
  · obtain ⟨l, hrd, h⟩ := h.someR
    obtain ⟨ffn, fkind, frd⟩ := fc
    simp only at hrd
    subst hrd
    obtain ⟨⟨s, p, a, b, c, d, e, f, g⟩, hl, h⟩ := h.loopR
    simp only at h
    split at h
    · obtain ⟨q, hb, hk⟩ := hG _ _ _ _ _ _ _ _ _ _ h
      refine ⟨q, fun hn env1 G hE hR => ?_, hk⟩
      have ho := hR.obs l
      rw [hl] at ho
      obtain ⟨env2, hg, hE2, hn2⟩ := ho.loop_inv
      obtain ⟨n, G', x, y⟩ := hb hn env1 _ hE (hR.set (H2.get_lt hl) (.loop (env1 := env2) hE2 hn2))
      refine ⟨n + 1, G', ?_, y⟩
      show runBody C.X C.fns (run C.X C.fns n) _ u G = _
      unfold runBody FrOf
      simp only [Option.bind_some, loopAt, hg]
      exact x
    · exact absurd h id
  · rename_i l
    obtain ⟨⟨s, p, a, b, c, d, e, f, g⟩, hl, h⟩ := h.loopR
    simp only at h
    have hgo : ∀ s', s = s' → s' ≠ .busy → Dn C (go nt fc env (pendTodo p k) ds .run u (H.set l (.loop ⟨.exhausted, p, a, b, c, d, e, f, g⟩)) ks) r → ∃ q, Big C nt fc env (.endRF l :: k) ds .run u H q ∧ EvK C ks q r := by
      intro s' hs hne h
      subst hs
      obtain ⟨q, hb, hk⟩ := hG _ _ _ _ _ _ _ _ _ _ h
      refine ⟨q, fun hn env1 G hE hR => ?_, hk⟩
      have ho := hR.obs l
      rw [hl] at ho
      obtain ⟨env2, hg, hE2, hn2⟩ := ho.loop_inv
      obtain ⟨n, G', x, y⟩ := hb hn env1 _ hE (hR.set (H2.get_lt hl) (.loop (env1 := env2) hE2 hn2))
      refine ⟨n + 1, G', ?_, y⟩
      show runBody C.X C.fns (run C.X C.fns n) _ u G = _
      unfold runBody FrOf
      simp only [Option.bind_some, loopAt, hg]
      rw [← x]
      cases s <;> first | (exact absurd rfl hne) | (cases p <;> rfl)
    cases s with
    | busy => exact absurd h id
    | ready => exact hgo _ rfl (by intro h; cases h) h
    | done => exact hgo _ rfl (by intro h; cases h) h
    | exhausted => exact hgo _ rfl (by intro h; cases h) h

theorem resVal2_ok {nt : Nat} {H : H2} {G : Hp} {env : E2} {env1 : Env} (hE : ER nt env env1) (hR : HR H G) {rv : ResultVar} {v : Value} (h : resVal2 C nt H env rv = some v) : resVal C.X G env1 rv = some v := by
  cases rv with
  | tmp t =>
    simp only [resVal2, Option.some.injEq] at h
    rw [opG_eq hE] at h
    exact congrArg some h
  | cell a t =>
    simp only [resVal2] at h
    have hl := loadC_ok (C := C) (nt := nt) (opG_gr (.tmp a)) t
    split at h
    · rename_i f hf
      rw [hf] at hl
      obtain ⟨G', g1, _⟩ := hl env env1 H G v H hE hR (by simp only [OpC.run, h]; rfl)
      simp only [Option.map_eq_some_iff, Prod.mk.injEq] at g1
      obtain ⟨v', g1, rfl, _⟩ := g1
      exact g1
    · cases h
theorem resVals_ok {nt : Nat} {H : H2} {G : Hp} {env : E2} {env1 : Env} (hE : ER nt env env1) (hR : HR H G) : ∀ {rs : List ResultVar} {vs : List Value}, resVals C nt rs H env = some vs → mapOpt (resVal C.X G env1) rs = some vs
  | [], vs, h => h
  | rv :: rs, vs, h => by
    obtain ⟨v, hv, h⟩ := someK_some (show someK (resVal2 C nt H env rv) (fun v => someK (resVals C nt rs H env) fun vs => some (v :: vs)) = some vs from h)
    obtain ⟨vs', hvs, h⟩ := someK_some h
    cases h
    simp only [mapOpt, resVal2_ok hE hR hv, Option.bind_some, resVals_ok hE hR hvs, Option.map_some]
theorem resA2_ok {nt : Nat} {H : H2} {G : Hp} {env : E2} {env1 : Env} (hE : ER nt env env1) (hR : HR H G) {f : Func} {v : Value} (h : resA2 C nt f H env = some v) : resA C.X f G env1 = some v := by
  unfold resA2 at h
  unfold resA
  split at h
  · rename_i rv hrs
    rw [hrs]
    simp only [mapOpt, resVal2_ok hE hR h, Option.bind_some, Option.map_some]
  · rename_i hne
    obtain ⟨vs, hvs, h⟩ := someK_some h
    cases h
    have hm := resVals_ok hE hR hvs
    rw [hm]
    have hlen : vs.length = f.results.toList.length := by
      have : ∀ (l : List ResultVar) (vs : List Value), mapOpt (resVal C.X G env1) l = some vs → vs.length = l.length := by
        intro l
        induction l with
        | nil => intro vs h; simp only [mapOpt, Option.some.injEq] at h; subst h; rfl
        | cons x l ih =>
          intro vs h
          simp only [mapOpt, Option.bind_eq_some_iff, Option.map_eq_some_iff] at h
          obtain ⟨v, _, vs', h1, rfl⟩ := h
          simp [ih _ h1]
      exact this _ _ hm
    match vs, hlen with
    | [], _ => rfl
    | [v], hl =>
      exfalso
      match hrs : f.results.toList with
      | [] => rw [hrs] at hl; simp at hl
      | [rv] => exact hne rv hrs
      | _ :: _ :: _ => rw [hrs] at hl; simp at hl
    | _ :: _ :: _, _ => rfl

theorem leave2_ok (hG : GoOk C go) (hP : PrOk C) (hz : ZtOk C) {nt : Nat} {fc : Fc} {env : E2} {todo : List It} {ds : List Deferred} {mode u : FrameMode} {H : H2} {ks : List KF} {r : Out} (hm : notRun mode = true) (h : Dn C (leave2 C go nt fc env todo ds mode u H ks) r) :
    ∃ q, Big C nt fc env todo ds mode u H q ∧ EvK C ks q r := by
  have hbody : ∀ rec env1 G, runBody C.X C.fns rec (FrOf fc nt env1 todo ds mode) u G = leaveA C.X C.fns rec (FrOf fc nt env1 todo ds mode) u G := by
    intro rec env1 G
    cases mode with
    | run => cases hm
    | returning => rfl
    | panicking c => rfl
  unfold leave2 at h
  split at h
  · split at h
    · obtain ⟨f, hf, h⟩ := h.someR
      obtain ⟨v, hv, h⟩ := h.someR
      refine ⟨_, fun hn env1 G hE hR => ⟨1, G, ?_, hR⟩, ret_ok2 hG hP hz h⟩
      show runBody C.X C.fns (run C.X C.fns 0) _ u G = _
      rw [hbody]
      unfold leaveA FrOf
      simp only [hf, Option.bind_some, resA2_ok hE hR hv, Option.map_some]
    · obtain ⟨f, hf, h⟩ := h.someR
      refine ⟨_, fun hn env1 G hE hR => ⟨1, G, ?_, hR⟩, ret_ok2 hG hP hz h⟩
      show runBody C.X C.fns (run C.X C.fns 0) _ u G = _
      rw [hbody]
      unfold leaveA FrOf
      simp only [hf, Option.map_some]
    · exact absurd h id
  · rename_i d ds
    split at h
    · rename_i b htg
      split at h
      · rename_i calls hg2
        obtain ⟨q, hb, hk⟩ := hG _ _ _ _ _ _ _ _ _ _ h
        refine ⟨q, fun hn env1 G hE hR => ?_, hk⟩
        have ho := hR.obs b
        rw [hg2] at ho
        have hg : G.get b = some (.deferred (some calls)) := by
          generalize G.get b = x at ho
          cases ho; rfl
        obtain ⟨n, G', x, y⟩ := hb hn env1 _ hE (hR.set (H2.get_lt hg2) (.deferred none))
        refine ⟨n + 1, G', ?_, y⟩
        show runBody C.X C.fns (run C.X C.fns n) _ u G = _
        rw [hbody]
        unfold leaveA FrOf
        simp only [htg, hg]
        rw [lapp_eq] at x
        exact x
      · exact absurd h id
    · rename_i g cap htg
      split at h
      · rename_i f hf
        split at h
        · rename_i c hb0
          obtain ⟨hc, h⟩ := h.bif
          simp only [Bool.and_eq_true] at hc
          have hn' : f.ntmps ≤ 512 := le_of hc.1
          have hl' : (d.args.toList ++ cap).length ≤ f.ntmps := by rw [← lapp_eq, ← llen_eq]; exact le_of hc.2
          obtain ⟨o, hb1, q, hkf, hk⟩ := hG _ _ _ _ _ _ _ _ _ _ h
          refine ⟨q, fun hn env1 G hE hR => ?_, hk⟩
          rw [lapp_eq] at hb1
          obtain ⟨n1, G1, x1, y1⟩ := hb1 hn' _ G (ER.args hn' _ 0 _ _ (by omega) (ER.start _)) hR
          have hent : enter g f c (d.args.toList ++ cap) .deferred = FrOf ⟨g, .deferred, none⟩ f.ntmps (putArgs 0 (d.args.toList ++ cap) .e) [.code c] [] .run := rfl
          have hsz : Nat.ble (d.args.size + (⟨cap⟩ : Array Value).size) f.ntmps = true := ble_t (by simpa using hl')
          have hall : ∀ m, n1 ≤ m → ∀ res, (match (o.1, o.2.1, G1) with
              | (.ret _, u', H) => bif notRun (settle u') then run C.X C.fns m { (FrOf fc nt env1 todo (d :: ds) mode) with defers := ds, mode := settle u' } u H else none
              | (.pan chain, u', H) => run C.X C.fns m { (FrOf fc nt env1 todo (d :: ds) mode) with defers := ds, mode := raised u' chain } u H : Option (En × FrameMode × Hp)) = res →
              run C.X C.fns (m + 1) (FrOf fc nt env1 todo (d :: ds) mode) u G = res := by
            intro m hm' res hres
            show runBody C.X C.fns (run C.X C.fns m) _ u G = _
            rw [hbody]
            have x1' := run_mono C.X C.fns hm' _ _ _ _ x1
            unfold leaveA
            simp only [FrOf] at hres ⊢
            simp only [htg, hf, hb0, Option.bind_some, hsz, ble_t (show f.ntmps ≤ 65536 by omega), Bool.and_self, cond_true]
            rw [hent, x1', ← hres]
            rfl
          cases he : o.1 with
          | ret v =>
            simp only [KFR, he] at hkf
            obtain ⟨hnr, hkf⟩ := hkf
            obtain ⟨n2, G2, x2, y2⟩ := hkf hn env1 G1 hE y1
            refine ⟨max n1 n2 + 1, G2, hall _ (Nat.le_max_left _ _) _ ?_, y2⟩
            rw [he]
            simp only [hnr, cond_true]
            exact run_mono C.X C.fns (Nat.le_max_right n1 n2) _ _ _ _ x2
          | pan ch =>
            simp only [KFR, he] at hkf
            obtain ⟨n2, G2, x2, y2⟩ := hkf hn env1 G1 hE y1
            refine ⟨max n1 n2 + 1, G2, hall _ (Nat.le_max_left _ _) _ ?_, y2⟩
            rw [he]
            exact run_mono C.X C.fns (Nat.le_max_right n1 n2) _ _ _ _ x2
        · exact absurd h id
      · exact absurd h id
    · exact absurd h id

theorem body3_ok (hG : GoOk C go) (hP : PrOk C) (hz : ZtOk C) : GoOk C (body3 C go) := by
  intro nt fc env todo ds mode u H ks r h
  unfold body3 at h
  split at h
  · split at h
    · obtain ⟨q, hb, hk⟩ := jumpOut_ok hG hP hz h
      exact ⟨q, hb _ fun rec env1 G => rfl, hk⟩
    · exact item_ok hG hP hz h
  · rename_i hm
    refine leave2_ok hG hP hz ?_ h
    cases mode with
    | run => exact absurd rfl hm
    | returning => rfl
    | panicking c => rfl

theorem run3_ok (hP : PrOk C) (hz : ZtOk C) : ∀ n, GoOk C (run3 C n)
  | 0 => fun nt fc env todo ds mode u H ks r h => h
  | n + 1 => body3_ok (run3_ok hP hz n) hP hz

/-- A state from which the run comes to another one. -/
theorem runSt_ok (hP : PrOk C) (hz : ZtOk C) {n : Nat} {s : St} {r : Out} (h : Dn C (runSt C n s) r) : EvS C s r := run3_ok hP hz n _ _ _ _ _ _ _ _ _ _ h
end
end Go.Am
