/- The fast machine: its control is the abstract machine's. Regions; what waits; code; the run. -/
import Derived.Test.YtmbiniafgdbbfaaGreatAkI
set_option linter.unusedSimpArgs false
set_option linter.unusedVariables false
set_option linter.unusedVariables false
namespace Go.Am

section
variable {C : Cy} {go : Go}

theorem regF_ok (hG : GoOk C go) (hP : PrOk C) (hz : ZtOk C) {nt : Nat} {all : List Oper} {fc : Fc} {k : List It} {ks : List KF} {r : Out} : ∀ (os : List Oper) (env : E2) (ds : List Deferred) (u : FrameMode) (H : H2),
    Dn C ((regF C nt all os).f go fc k env ds u H ks) r → ∃ q, RegBig C nt all os fc k env ds u H q ∧ EvK C ks q r
  | [], env, ds, u, H, h => by
    obtain ⟨q, hb, hk⟩ := hG _ _ _ _ _ _ _ _ _ _ h
    refine ⟨q, fun hn e0 t0 d0 env1 G hE hR => ?_, hk⟩
    obtain ⟨n, G', q1, q2⟩ := hb hn env1 G hE hR
    exact ⟨n, .done env1 ds u G, G', rfl, q1, q2⟩
  | o :: os, env, ds, u, H, h => by
    have ih := fun env ds u H => regF_ok hG hP hz (nt := nt) (all := all) (fc := fc) (k := k) (ks := ks) (r := r) os env ds u H
    unfold regF guarded at h
    split at h
    · rename_i hg
      exact opReg_ok hG hP hz ih (fun env1 hE => by rw [wantG_ok hE, hg]) h
    · rename_i g want hg
      simp only at h
      cases hw : wantK (g.f env) want with
      | true =>
        rw [hw] at h
        exact opReg_ok hG hP hz ih (fun env1 hE => by rw [wantG_ok hE, hg]; exact hw) h
      | false =>
        rw [hw] at h
        obtain ⟨q, hb, hk⟩ := ih _ _ _ _ h
        refine ⟨q, RegBig.next (fun hn e0 t0 d0 env1 G hE hR => ?_) hb, hk⟩
        exact ⟨0, _, G, hE.put hn o.dst undef, hR, fun m _ => regU_skip (by rw [wantG_ok hE, hg]; exact hw)⟩

/-! Regions that draw. -/
theorem TesR.append {nt : Nat} {a b : List Oper} {e f : List Te2} {e1 f1 : List Te} (h : TesR C nt a e e1) (k : TesR C nt b f f1) : TesR C nt (a ++ b) (e ++ f) (e1 ++ f1) := by
  induction h with
  | nil => exact k
  | cons h _ ih => exact .cons h ih
theorem HRs.append {a b : List H2} {c d : List Hp} (h : HRs a c) (k : HRs b d) : HRs (a ++ b) (c ++ d) := by
  induction h with
  | nil => exact k
  | cons h _ ih => exact .cons h ih
theorem TesR.len {nt : Nat} {a : List Oper} {e : List Te2} {e1 : List Te} (h : TesR C nt a e e1) : e.length = a.length ∧ e1.length = a.length := by
  induction h with
  | nil => exact ⟨rfl, rfl⟩
  | cons _ _ ih => exact ⟨congrArg (· + 1) ih.1, congrArg (· + 1) ih.2⟩
theorem TesR.get {nt : Nat} {a : List Oper} {e : List Te2} {e1 : List Te} (h : TesR C nt a e e1) : ∀ {i : Nat} {o : Oper} {x1 : Te}, a[i]? = some o → e1[i]? = some x1 → ∃ x, e[i]? = some x ∧ TeR C nt o x x1 := by
  induction h with
  | nil => intro i o x1 h; simp at h
  | cons h _ ih =>
    intro i o x1 ha hb
    cases i with
    | zero => simp at ha hb; subst ha hb; exact ⟨_, by simp, h⟩
    | succ i => simpa using ih (by simpa using ha) (by simpa using hb)
theorem HRs.get {a : List H2} {b : List Hp} (h : HRs a b) : ∀ {i : Nat} {G : Hp}, b[i]? = some G → ∃ H, a[i]? = some H ∧ HR H G := by
  induction h with
  | nil => intro i G h; simp at h
  | cons h _ ih =>
    intro i G hb
    cases i with
    | zero => simp at hb; subst hb; exact ⟨_, by simp, h⟩
    | succ i => simpa using ih (by simpa using hb)
theorem HRs.len {a : List H2} {b : List Hp} (h : HRs a b) : a.length = b.length := by
  induction h with
  | nil => rfl
  | cons _ _ ih => exact congrArg (· + 1) ih

theorem effs_eq {nt : Nat} {a : List Oper} {e : List Te2} {e1 : List Te} (h : TesR C nt a e e1) : effs2 C a e = effs C.X a e1 := by
  unfold effs2 effs
  have key : ∀ i, (((a.zip e).zipIdx i).filter fun ((o, e), _) => e.w && effOp C.X o.op).map (·.2) = (((a.zip e1).zipIdx i).filter fun ((o, e), _) => e.w && effOp C.X o.op).map (·.2) := by
    induction h with
    | nil => intro i; rfl
    | @cons o x x1 os es es1 h _ ih =>
      intro i
      simp only [List.zip_cons_cons, List.zipIdx_cons, List.filter_cons, h.w]
      cases (x.w && effOp C.X o.op) <;> simp [ih (i + 1)]
  exact key 0

theorem quietC_ok (hz : ZtOk C) {nt : Nat} {o : Oper} {c : OpC} (h : quietC C nt o = some c) : quietOp C.X o.op = true ∧ o.op.operands.toList.all opndOk = true ∧ ∀ {env env1 H G v}, ER nt env env1 → HR H G → quietV c env H = some v → quietVal C.X o env1 G = some v := by
  unfold quietC at h
  split at h
  · rename_i c' hd
    cases h
    unfold dwayOf at hd
    cases hok : o.op.operands.toList.all opndOk with
    | false => rw [hok] at hd; cases hd
    | true =>
      rw [hok] at hd
      simp only [cond_true] at hd
      cases hq : quietOp C.X o.op with
      | false =>
        rw [hq] at hd
        simp only [cond_false] at hd
        cases ha : allocOp o.op with
        | true => rw [ha] at hd; simp only [cond_true] at hd; split at hd <;> cases hd
        | false => rw [ha] at hd; cases hd
      | true =>
        rw [hq] at hd
        simp only [cond_true] at hd
        split at hd
        · rename_i c'' hway
          cases hd
          refine ⟨rfl, rfl, fun {env env1 H G v} hE hR hv => ?_⟩
          obtain ⟨_, a, hok', _, hqv⟩ := wayOf_op hz hway
          rw [hqv]
          cases c with
          | pure g =>
            obtain ⟨G', g1, g2⟩ := hok' env env1 H G v H hE hR (by simp only [OpC.run, show g env = some v from hv]; rfl)
            rw [g1]; rfl
          | read g =>
            obtain ⟨G', g1, g2⟩ := hok' env env1 H G v H hE hR (by simp only [OpC.run, show g env H = some v from hv]; rfl)
            rw [g1]; rfl
          | heap g =>
            obtain ⟨p, hp, e⟩ := someK_some hv
            cases e
            obtain ⟨G', g1, g2⟩ := hok' env env1 H G p.1 p.2 hE hR hp
            rw [g1]; rfl
        · cases hd
  · cases h

theorem selfV_ok {v : Value} (h : selfV v = true) : sameV 20 v v = true := by
  unfold selfV at h
  split at h
  · simp [sameV]
  · simp [sameV]
  · simp [sameV]
  · simp [sameV]
  · exact h

theorem float1_ok {c : OpC} {e : Te2} {lo hi : Nat} : ∀ (Gs : List H2) (k : Nat), float1 c e lo hi Gs k = true → ∀ j H, Gs[j]? = some H → (Nat.blt (k + j) lo || Nat.blt hi (k + j)) = true ∨ ∃ v, quietV c e.env H = some v ∧ sameV 20 v e.v = true
  | [], k, _, j, H, hj => by simp at hj
  | G :: Gs, k, h, j, H, hj => by
    unfold float1 at h
    simp only [Bool.and_eq_true] at h
    cases j with
    | zero =>
      simp at hj; subst hj
      cases hc : (Nat.blt k lo || Nat.blt hi k) with
      | true => exact .inl rfl
      | false =>
        rw [hc] at h
        refine .inr ?_
        have h1 := h.1
        simp only [cond_false] at h1
        split at h1
        · rename_i v hv; exact ⟨v, hv, h1⟩
        · cases h1
    | succ j =>
      have := float1_ok Gs (k + 1) h.2 j H (by simpa using hj)
      rwa [show k + (j + 1) = k + 1 + j by omega]

theorem floatGo_ok {nt : Nat} {ms ef : List Nat} {Gs : List H2} : ∀ (os : List Oper) (es : List Te2) (i : Nat), floatGo C nt ms ef Gs os es i = true → ∀ j o e, os[j]? = some o → es[j]? = some e → e.w = true → ∀ c, quietC C nt o = some c →
      (∃ g, c = .pure g ∧ selfV e.v = true) ∨ float1 c e (ef.filter fun x => beforeOk ms x (i + j)).length (ef.filter fun x => !beforeOk ms (i + j) x).length Gs 0 = true
  | [], es, i, h, j, o, e, ho, he, hw, c, hc => by simp at ho
  | _ :: _, [], i, h, j, o, e, ho, he, hw, c, hc => by simp at he
  | o0 :: os, e0 :: es, i, h, j, o, e, ho, he, hw, c, hc => by
    unfold floatGo at h
    simp only [Bool.and_eq_true] at h
    cases j with
    | zero =>
      simp at ho he; subst ho he
      have h1 := h.1
      rw [hw, hc] at h1
      simp only [cond_true] at h1
      split at h1
      · rename_i g; exact .inl ⟨g, rfl, h1⟩
      · exact .inr h1
    | succ j =>
      have := floatGo_ok os es (i + 1) h.2 j o e (by simpa using ho) (by simpa using he) hw c hc
      rwa [show i + (j + 1) = i + 1 + j by omega]

theorem float_end (hz : ZtOk C) {nt : Nat} {ops : List Oper} {es : List Te2} {es1 : List Te} {Gs : List H2} {Gs1 : List Hp} (hT : TesR C nt ops es es1) (hH : HRs Gs Gs1) (h : floatGo C nt (masks ops []) (effs2 C ops es) Gs ops es 0 = true) : floatOk C.X ops es1 Gs1 (sameV 20) = true := by
  unfold floatOk
  simp only [List.all_eq_true]
  rintro ⟨⟨o, e1⟩, i⟩ hm
  rw [List.mem_zipIdx_iff_getElem?, List.getElem?_zip_eq_some] at hm
  simp only at hm
  obtain ⟨ho, he1⟩ := hm
  obtain ⟨e, he, hr⟩ := hT.get ho he1
  simp only
  cases hw : e.w with
  | false => rw [hr.w, hw]; rfl
  | true =>
    cases hq : quietOp C.X o.op with
    | false => simp
    | true =>
      obtain ⟨c, hc, hpure⟩ := hr.quiet hw hq
      obtain ⟨_, _, hcok⟩ := quietC_ok hz hc
      rw [hr.w, hw]
      simp only [Bool.not_true, Bool.false_or, List.all_eq_true, List.mem_range]
      intro k hk
      obtain ⟨G, hG⟩ : ∃ G, Gs1[k]? = some G := ⟨_, List.getElem?_eq_getElem hk⟩
      obtain ⟨H, hHk, hR⟩ := hH.get hG
      have hf := floatGo_ok ops es 0 h i o e ho he hw c hc
      rw [Nat.zero_add] at hf
      rw [hG]
      rcases hf with ⟨g, rfl, hs⟩ | hf
      · have e9 := hcok hr.env hR (show quietV (.pure g) e.env H = some e.v from hpure g rfl)
        simp only [e9, hr.v, selfV_ok hs, Bool.or_true]
      · rcases float1_ok Gs 0 hf k H hHk with hb | ⟨v, hv, hs⟩
        · rw [Nat.zero_add, effs_eq hT] at hb
          simp only [Bool.or_eq_true] at hb ⊢
          exact .inl hb
        · have e9 := hcok hr.env hR hv
          simp only [e9, hr.v, hs, Bool.or_true]

theorem cells_row (v : Value) : ∃ r : Rp, r = Rp.ofL (cellsL v) ∧ r.Ok ∧ r.toL = v.cells.toList := ⟨_, rfl, (Rp.ofL_ok _).1, by rw [(Rp.ofL_ok _).2, cellsL_eq]⟩

theorem allocD_ok (hz : ZtOk C) {nt : Nat} {o : Op} {f : E2 → Option (Ob2 × (Nat → Value))} (h : allocD C nt o = some f) {env : E2} {env1 : Env} (hE : ER nt env env1) {p : Ob2 × (Nat → Value)} (hp : f env = some p) :
    ∃ ob, allocA C.X o (opnd env1) = some (ob, p.2) ∧ OR (some p.1) (some ob) := by
  unfold allocD at h
  split at h
  · split at h
    · rename_i n r h0
      cases h; cases hp
      obtain ⟨z, hz1, hz2, hz3, hz4⟩ := zeroR_some hz h0
      exact ⟨.row r.toL, by simp only [allocA, hz1, Option.map_some, hz2], .row hz4 hz3⟩
    · cases h
  · rename_i t v
    have hv := opG_eq hE v
    generalize opG nt v = gv at h hv
    obtain ⟨g⟩ := gv
    cases h
    simp only at hp hv
    cases hp
    obtain ⟨a, b⟩ := Rp.ofL_ok (cellsL (g env))
    refine ⟨.row (Rp.ofL (cellsL (g env))).toL, ?_, .row a (by rw [b, llen_eq])⟩
    rw [b, hv, cellsL_eq]; rfl
  · rename_i t len ps
    split at h
    · rename_i e hu
      split at h
      · rename_i s z hs hzz
        obtain ⟨hc, h⟩ := bif_some h
        cases h
        obtain ⟨cs, hcs, e⟩ := someK_some hp
        cases e
        rw [parts_eq hE, cellsL_eq] at hcs
        rw [llen_eq, cellsL_eq, Array.length_toList] at hc
        obtain ⟨a, b⟩ := Rp.ofL_ok cs
        refine ⟨.row (Rp.ofL cs).toL, ?_, .row a (by rw [b, llen_eq])⟩
        rw [b]
        simp only [allocA, buildRow, hu, hs, hzz, Option.bind_some]
        rw [show (Nat.ble (len * s) 65536 && Nat.beq z.cells.size s) = true from hc]
        simp only [cond_true, hcs, Option.map_some]
      · cases h
    · cases h
  · cases h; cases hp; exact ⟨.map [] 0, rfl, .map [] 0⟩
  · cases h

theorem dway_cases {nt : Nat} {o : Oper} : (∀ c, dwayOf C nt o.op = .quiet c → quietC C nt o = some c) ∧ (∀ f, dwayOf C nt o.op = .alloc f → o.op.operands.toList.all opndOk = true ∧ quietOp C.X o.op = false ∧ allocOp o.op = true ∧ allocD C nt o.op = some f) ∧
    (∀ w, dwayOf C nt o.op = .eff w → o.op.operands.toList.all opndOk = true ∧ quietOp C.X o.op = false ∧ allocOp o.op = false ∧ wayOf C nt o.op = w) := by
  refine ⟨fun c h => by unfold quietC; rw [h], fun f h => ?_, fun w h => ?_⟩
  all_goals
    unfold dwayOf at h
    cases hok : o.op.operands.toList.all opndOk with
    | false => rw [hok] at h; cases h
    | true =>
      rw [hok] at h
      simp only [cond_true] at h
      cases hq : quietOp C.X o.op with
      | true =>
        rw [hq] at h
        simp only [cond_true] at h
        split at h <;> cases h
      | false =>
        rw [hq] at h
        simp only [cond_false] at h
        cases ha : allocOp o.op with
        | true =>
          rw [ha] at h
          simp only [cond_true] at h
          split at h
          · first | (cases h; exact ⟨rfl, rfl, rfl, by assumption⟩) | cases h
          · cases h
        | false =>
          rw [ha] at h
          simp only [cond_false] at h
          first | (cases h; done) | (cases h; exact ⟨rfl, rfl, rfl, rfl⟩)

/-- A drawn region's rest, joined. -/
theorem TxBig.next {nt : Nat} {all : List Oper} {o : Oper} {os : List Oper} {i : Nat} {fc : Fc} {k : List It} {env env' : E2} {ds : List Deferred} {u : FrameMode} {base : Nat} {es : List Te2} {e : Te2} {Gs Ds : List H2} {H0 H H' : H2} {r : Out}
    (h : nt ≤ 512 → base + i < 262144 → ∀ e0 t0 env1 G, ER nt env env1 → HR H G → ∃ n e1 Ds1 G1, TeR C nt o e e1 ∧ HRs Ds Ds1 ∧ HR H' G1 ∧ ER nt env' (env1.put nt o.dst e1.v) ∧
      ∀ m, n ≤ m → ∀ es' Gs' G2, tx C.X C.fns (run C.X C.fns m) (FrOf fc nt e0 t0 ds .run) u base all os (i + 1) (env1.put nt o.dst e1.v) G1 = some (es', Gs', G2) →
        tx C.X C.fns (run C.X C.fns m) (FrOf fc nt e0 t0 ds .run) u base all (o :: os) i env1 G = some (e1 :: es', Ds1 ++ Gs', G2))
    (hb : TxBig C nt all os (i + 1) fc k env' ds u base (e :: es) (Ds ++ Gs) H0 H' r) (hD : Ds.length ≤ 1) : TxBig C nt all (o :: os) i fc k env ds u base es Gs H0 H r := by
  intro hn hbase pre e0 t0 env1 es1 Gs1 G0 G hall hpre hes hGs hR0 hE hR
  have hi : base + i < 262144 := by rw [hall] at hbase; simp at hbase; omega
  obtain ⟨n, e1, Ds1, G1, hT, hDs, hR1, hE1, hx⟩ := h hn hi e0 t0 env1 G hE hR
  have hrev : (Ds ++ Gs).reverse = Gs.reverse ++ Ds := by
    rcases Ds with _ | ⟨d, _ | ⟨d2, Ds⟩⟩
    · simp
    · simp
    · simp at hD
  obtain ⟨m, es', Gs', G2, G', q1, q2, q3, q4⟩ := hb hn hbase (pre ++ [o]) e0 t0 (env1.put nt o.dst e1.v) (es1 ++ [e1]) (Gs1 ++ Ds1) G0 G1 (by simp [hall]) (by simp [hpre])
    (by rw [List.reverse_cons]; exact hes.append (.cons hT .nil)) (by rw [hrev]; exact hGs.append hDs) hR0 hE1 hR1
  refine ⟨max n m, e1 :: es', Ds1 ++ Gs', G2, G', ?_, ?_, ?_, q4⟩
  · exact hx _ (Nat.le_max_left _ _) _ _ _ (tx_le (run_mono C.X C.fns (Nat.le_max_right n m)) _ _ _ _ _ _ _ _ _ q1)
  · simpa using q2
  · exact run_mono C.X C.fns (Nat.le_max_right n m) _ _ _ _ q3

theorem notQuiet {nt : Nat} {o : Oper} {e : Te2} (h : quietOp C.X o.op = false) : e.w = true → quietOp C.X o.op = true → ∃ c, quietC C nt o = some c ∧ ∀ g, c = .pure g → g e.env = some e.v := fun _ hq => by rw [h] at hq; cases hq

theorem dopF_ok (hG : GoOk C go) (hP : PrOk C) (hz : ZtOk C) {nt : Nat} {all os : List Oper} {o : Oper} {i : Nat} {fc : Fc} {k : List It} {env : E2} {ds : List Deferred} {u : FrameMode} {base : Nat} {es : List Te2} {Gs : List H2} {H0 H : H2} {ks : List KF} {r : Out}
    (ih : ∀ env es Gs H, Dn C ((txF C nt all os (i + 1)).f go fc k env ds u base es Gs H0 H ks) r → ∃ q, TxBig C nt all os (i + 1) fc k env ds u base es Gs H0 H q ∧ EvK C ks q r)
    (hw : ∀ env1, ER nt env env1 → wantedA all env1 o = true)
    (h : Dn C ((dopF C nt all os i (dwayOf C nt o.op) o.dst (putD nt o.dst) (txF C nt all os (i + 1))).f go fc k env ds u base es Gs H0 H ks) r) : ∃ q, TxBig C nt all (o :: os) i fc k env ds u base es Gs H0 H q ∧ EvK C ks q r := by
  obtain ⟨d1, d2, d3⟩ := dway_cases (C := C) (nt := nt) (o := o)
  unfold dopF at h
  split at h
  · rename_i c hway
    obtain ⟨v, hv, h⟩ := h.someR
    obtain ⟨q, hb, hk⟩ := ih _ _ _ _ h
    obtain ⟨hq, hok, hcok⟩ := quietC_ok hz (d1 c hway)
    refine ⟨q, TxBig.next (Ds := []) (fun hn hi e0 t0 env1 G hE hR => ?_) hb (by simp), hk⟩
    refine ⟨0, ⟨env1, v, true⟩, [], G, ⟨hE, rfl, rfl, fun _ _ => ⟨c, d1 c hway, fun g hg => by subst hg; exact hv⟩⟩, .nil, hR, hE.put hn o.dst v, fun m _ es' Gs' G2 hx => ?_⟩
    unfold tx
    rw [hw env1 hE, hok, hq]
    simp only [cond_true, hcok hE hR hv, Option.bind_some]
    rw [show (FrOf fc nt e0 t0 ds .run).nt = nt from rfl, hx]
    rfl
  · rename_i g hway
    obtain ⟨p, hp, h⟩ := h.someR
    obtain ⟨q, hb, hk⟩ := ih _ _ _ _ h
    obtain ⟨hok, hq, ha, hal⟩ := d2 g hway
    refine ⟨q, TxBig.next (Ds := []) (fun hn hi e0 t0 env1 G hE hR => ?_) hb (by simp), hk⟩
    obtain ⟨ob, h1, h2⟩ := allocD_ok hz hal hE hp
    refine ⟨0, ⟨env1, p.2 (base + i), true⟩, [], G.set (base + i) ob, ⟨hE, rfl, rfl, notQuiet hq⟩, .nil, hR.set hi h2, hE.put hn o.dst _, fun m _ es' Gs' G2 hx => ?_⟩
    unfold tx
    rw [hw env1 hE, hok, hq, ha]
    simp only [cond_true, cond_false, h1, Option.bind_some]
    rw [show (FrOf fc nt e0 t0 ds .run).nt = nt from rfl, hx]
    rfl
  · rename_i c hway
    obtain ⟨⟨v, H'⟩, hv, h⟩ := h.someR
    obtain ⟨q, hb, hk⟩ := ih _ _ _ _ h
    obtain ⟨hok, hq, ha, hwy⟩ := d3 _ hway
    obtain ⟨_, a, hopk, hres, _⟩ := wayOf_op hz hwy
    refine ⟨q, TxBig.next (Ds := [H']) (fun hn hi e0 t0 env1 G hE hR => ?_) hb (by simp), hk⟩
    obtain ⟨G', g1, g2⟩ := hopk env env1 H G v H' hE hR hv
    refine ⟨0, ⟨env1, v, true⟩, [G'], G', ⟨hE, rfl, rfl, notQuiet hq⟩, .cons g2 .nil, g2, hE.put hn o.dst v, fun m _ es' Gs' G2 hx => ?_⟩
    unfold tx
    rw [hw env1 hE, hok, hq, ha, hres, g1]
    simp only [cond_true, cond_false, Option.map_some]
    rw [show (FrOf fc nt e0 t0 ds .run).nt = nt from rfl, hx]
    rfl
  · rename_i fv args hway
    obtain ⟨hok, hq, ha, hwy⟩ := d3 _ hway
    obtain ⟨f, al, rfl, rfl, hres⟩ := wayOf_call hwy
    have step : ∀ v H', CallOut C ((opG nt f).f env) (vals (al.map (opG nt)) env) H (.ret v) H' → ∀ q, TxBig C nt all os (i + 1) fc k ((putD nt o.dst).f env v) ds u base (⟨env, v, true⟩ :: es) (H' :: Gs) H0 H' q → TxBig C nt all (o :: os) i fc k env ds u base es Gs H0 H q := by
      intro v H' h1 q hb
      refine TxBig.next (Ds := [H']) (fun hn hi e0 t0 env1 G hE hR => ?_) hb (by simp)
      obtain ⟨n, G', g1, g2⟩ := h1 G hR
      rw [opG_eq hE, vals_eq hE] at g1
      refine ⟨n, ⟨env1, v, true⟩, [G'], G', ⟨hE, rfl, rfl, notQuiet hq⟩, .cons g2 .nil, g2, hE.put hn o.dst v, fun m hm es' Gs' G2 hx => ?_⟩
      unfold tx
      rw [hw env1 hE, hok, hq, ha, hres, callV_le (run_mono C.X C.fns hm) _ _ _ _ g1]
      simp only [cond_true, cond_false, Option.map_some]
      rw [show (FrOf fc nt e0 t0 ds .run).nt = nt from rfl, hx]
      rfl
    rcases callV2_ok hG hP h with ⟨v, H', h1, h⟩ | ⟨o1, h1, h⟩
    · obtain ⟨q, hb, hk⟩ := ih _ _ _ _ h
      exact ⟨q, step v H' h1 q hb, hk⟩
    · obtain ⟨q, hkf, hk⟩ := h
      refine ⟨q, ?_, hk⟩
      cases he : o1.1 with
      | ret v =>
        simp only [KFR, he] at hkf
        rw [he] at h1
        exact step v _ h1 q hkf
      | pan ch =>
        simp only [KFR, he] at hkf
  · exact absurd h id

theorem txF_ok (hG : GoOk C go) (hP : PrOk C) (hz : ZtOk C) {nt : Nat} {all : List Oper} {fc : Fc} {k : List It} {ds : List Deferred} {u : FrameMode} {base : Nat} {H0 : H2} {ks : List KF} {r : Out} : ∀ (os : List Oper) (i : Nat) (env : E2) (es : List Te2) (Gs : List H2) (H : H2),
    Dn C ((txF C nt all os i).f go fc k env ds u base es Gs H0 H ks) r → ∃ q, TxBig C nt all os i fc k env ds u base es Gs H0 H q ∧ EvK C ks q r
  | [], i, env, es, Gs, H, h => by
    unfold txF txEnd at h
    obtain ⟨hc, h⟩ := h.bif
    obtain ⟨q, hb, hk⟩ := hG _ _ _ _ _ _ _ _ _ _ h
    refine ⟨q, fun hn hbase pre e0 t0 env1 es1 Gs1 G0 G hall hpre hes hGs hR0 hE hR => ?_, hk⟩
    obtain ⟨n, G', q1, q2⟩ := hb hn env1 G hE hR
    refine ⟨n, [], [], G, G', rfl, ?_, q1, q2⟩
    rw [List.append_nil] at hall
    subst hall
    simp only [Bool.or_eq_true] at hc ⊢
    rcases hc with hc | hc
    · exact .inl hc
    · refine .inr ?_
      rw [List.append_nil, List.append_nil]
      exact float_end hz hes (.cons hR0 hGs) hc
  | o :: os, i, env, es, Gs, H, h => by
    have ih := fun env es Gs H => txF_ok hG hP hz (nt := nt) (all := all) (fc := fc) (k := k) (ds := ds) (u := u) (base := base) (H0 := H0) (ks := ks) (r := r) os (i + 1) env es Gs H
    unfold txF dguard at h
    split at h
    · rename_i hg
      exact dopF_ok hG hP hz ih (fun env1 hE => by rw [wantG_ok hE, hg]) h
    · rename_i g want hg
      simp only at h
      cases hw : wantK (g.f env) want with
      | true =>
        rw [hw] at h
        exact dopF_ok hG hP hz ih (fun env1 hE => by rw [wantG_ok hE, hg]; exact hw) h
      | false =>
        rw [hw] at h
        obtain ⟨q, hb, hk⟩ := ih _ _ _ _ h
        refine ⟨q, TxBig.next (Ds := []) (fun hn hi e0 t0 env1 G hE hR => ?_) hb (by simp), hk⟩
        refine ⟨0, ⟨env1, undef, false⟩, [], G, ⟨hE, rfl, rfl, fun hw => by cases hw⟩, .nil, hR, hE.put hn o.dst undef, fun m _ es' Gs' G2 hx => ?_⟩
        unfold tx
        rw [show wantedA all env1 o = false by rw [wantG_ok hE, hg]; exact hw]
        simp only [cond_false]
        rw [show (FrOf fc nt e0 t0 ds .run).nt = nt from rfl, hx]
        rfl

theorem regD2_ok (hG : GoOk C go) (hP : PrOk C) (hz : ZtOk C) {nt : Nat} {ops : List Oper} {fc : Fc} {k : List It} {env : E2} {ds : List Deferred} {u : FrameMode} {H : H2} {ks : List KF} {r : Out} (h : Dn C ((regD2 C nt ops).f go fc k env ds u H ks) r) :
    ∃ q, (nt ≤ 512 → ∀ t0 env1 G, ER nt env env1 → HR H G → ∃ n rr G', regD C.X C.fns (run C.X C.fns n) (FrOf fc nt env1 t0 ds .run) u ops G = some rr ∧ regK (run C.X C.fns n) (FrOf fc nt env1 t0 ds .run) k rr = some (q.1, q.2.1, G') ∧ HR q.2.2 G') ∧ EvK C ks q r := by
  unfold regD2 at h
  cases hd : drawOk C.X ops with
  | false => rw [hd] at h; exact absurd h id
  | true =>
    rw [hd] at h
    simp only [cond_true] at h
    obtain ⟨hle, h⟩ := h.bif
    have hle : H.next + ops.length ≤ 262144 := le_of hle
    obtain ⟨q, hb, hk⟩ := txF_ok hG hP hz _ _ _ _ _ _ h
    refine ⟨q, fun hn t0 env1 G hE hR => ?_, hk⟩
    have hR0 : HR ⟨H.tr, H.old, H.next + ops.length⟩ ⟨G.tr, G.next + ops.length⟩ := ⟨hR.obs, by show G.next + _ = H.next + _; rw [hR.next], hle⟩
    obtain ⟨n, es', Gs', G2, G', q1, q2, q3, q4⟩ := hb hn hle [] env1 t0 env1 [] [] _ _ rfl rfl .nil .nil hR0 hE hR0
    refine ⟨n, .done (lastEnv (FrOf fc nt env1 t0 ds .run) ops es' env1) ds u G2, G', ?_, q3, q4⟩
    unfold regD
    rw [hd, hR.next, show Nat.ble (H.next + ops.length) FB = true from ble_t (Nat.le_trans hle (by decide))]
    rw [hR.next] at q1
    simp only [Bool.and_self, cond_true]
    rw [show (FrOf fc nt env1 t0 ds .run).env = env1 from rfl, q1]
    simp only [Option.bind_some, List.nil_append] at q2 ⊢
    rw [hR.next] at q2
    rw [q2]
    rfl

/-! What waits goes on. -/
theorem ret_ok2 (hG : GoOk C go) (hP : PrOk C) (hz : ZtOk C) {ks : List KF} {e : En} {u : FrameMode} {H : H2} {r : Out} (h : Dn C (ret C go ks e u H) r) : EvK C ks (e, u, H) r := by
  unfold ret at h
  split at h
  · exact h.symm
  · split at h
    · obtain ⟨q, hb, hk⟩ := regF_ok hG hP hz _ _ _ _ _ h
      exact ⟨q, hb, hk⟩
    · obtain ⟨q, hb, hk⟩ := hG _ _ _ _ _ _ _ _ _ _ h
      exact ⟨q, hb, hk⟩
  · split at h
    · obtain ⟨q, hb, hk⟩ := txF_ok hG hP hz _ _ _ _ _ _ h
      exact ⟨q, hb, hk⟩
    · exact absurd h id
  · split at h
    · split at h
      · exact absurd h id
      · rename_i hm
        obtain ⟨q, hb, hk⟩ := hG _ _ _ _ _ _ _ _ _ _ h
        refine ⟨q, ⟨?_, hb⟩, hk⟩
        show notRun (settle u) = true
        cases hs : settle u with
        | run => exact absurd hs hm
        | returning => rfl
        | panicking c => rfl
    · obtain ⟨q, hb, hk⟩ := hG _ _ _ _ _ _ _ _ _ _ h
      exact ⟨q, hb, hk⟩
  · split at h
    · obtain ⟨q, hb, hk⟩ := hG _ _ _ _ _ _ _ _ _ _ h
      exact ⟨q, hb, hk⟩
    · obtain ⟨q, hb, hk⟩ := hG _ _ _ _ _ _ _ _ _ _ h
      exact ⟨q, hb, hk⟩
end
end Go.Am
