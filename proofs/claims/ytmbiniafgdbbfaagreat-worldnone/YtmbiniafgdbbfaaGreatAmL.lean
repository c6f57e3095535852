/- Regions that draw: what comes ahead of what; the text's run, laid out. -/
import Derived.Test.YtmbiniafgdbbfaaGreatAmK
set_option linter.unusedSimpArgs false
set_option linter.unusedVariables false
set_option linter.unusedVariables false
namespace Go.Am

theorem fold_bits (A : List Nat) (j : Nat) : ∀ (l : List Edge) (s : Nat), (l.foldl (fun s e => if Region.binds .any e then s ||| 2 ^ e.on ||| A.getD e.on 0 else s) s).testBit j = true →
    s.testBit j = true ∨ ∃ e ∈ l, Region.binds .any e = true ∧ (j = e.on ∨ (A.getD e.on 0).testBit j = true)
  | [], s, h => .inl h
  | e :: l, s, h => by
    simp only [List.foldl_cons] at h
    rcases fold_bits A j l _ h with h | ⟨e', he, hb, hj⟩
    · by_cases hb : Region.binds .any e = true
      · rw [if_pos hb] at h
        simp only [Nat.testBit_or, Bool.or_eq_true] at h
        rcases h with (h | h) | h
        · exact .inl h
        · refine .inr ⟨e, by simp, hb, .inl ?_⟩
          rw [Nat.testBit_two_pow] at h
          exact (of_decide_eq_true h).symm
        · exact .inr ⟨e, by simp, hb, .inr h⟩
      · rw [if_neg hb] at h; exact .inl h
    · exact .inr ⟨e', by simp [he], hb, hj⟩

theorem masks_pre : ∀ (os : List Oper) (acc : List Nat) (k : Nat), k < acc.length → (masks os acc).getD k 0 = acc.getD k 0
  | [], acc, k, h => rfl
  | o :: os, acc, k, h => by
    rw [masks, masks_pre os _ k (by simp; omega)]
    simp only [List.getD_eq_getElem?_getD, List.getElem?_append_left h]

theorem masks_bit : ∀ (os : List Oper) (acc : List Nat) (d : Nat) (o : Oper), os[d]? = some o → ∀ j, ((masks os acc).getD (acc.length + d) 0).testBit j = true →
    ∃ e ∈ o.after.toList, Region.binds .any e = true ∧ (j = e.on ∨ (e.on < acc.length + d → ((masks os acc).getD e.on 0).testBit j = true))
  | [], acc, d, o, h, j, hj => by simp at h
  | o :: os, acc, 0, o', h, j, hj => by
    simp at h; subst h
    rw [masks, Nat.add_zero, masks_pre os _ acc.length (by simp)] at hj
    simp only [List.getD_eq_getElem?_getD, List.getElem?_append_right (Nat.le_refl _), Nat.sub_self, List.getElem?_cons_zero, Option.getD_some] at hj
    rcases fold_bits acc j o.after.toList 0 (by simpa only [List.getD_eq_getElem?_getD] using hj) with h0 | ⟨e, he, hb, hh⟩
    · simp at h0
    · refine ⟨e, he, hb, hh.imp id fun h1 h2 => ?_⟩
      rw [Nat.add_zero] at h2
      rw [masks_pre (o :: os) acc e.on h2]; exact h1
  | o :: os, acc, d + 1, o', h, j, hj => by
    rw [masks] at hj ⊢
    have := masks_bit os (acc ++ [o.after.toList.foldl (fun s e => if Region.binds .any e then s ||| 2 ^ e.on ||| acc.getD e.on 0 else s) 0]) d o' (by simpa using h) j (by
      simp only [List.length_append, List.length_cons, List.length_nil]
      rw [show acc.length + (0 + 1) + d = acc.length + (d + 1) by omega]; exact hj)
    simp only [List.length_append, List.length_cons, List.length_nil] at this
    rw [show acc.length + (0 + 1) + d = acc.length + (d + 1) by omega] at this
    exact this

/-- A set of operations that holds all that must come ahead of each of its own. -/
def Closed (ops : List Oper) (S : Nat → Prop) : Prop := ∀ i, S i → ∀ j, beforeOk (masks ops []) j i = true → S j

theorem ahead_in {ops : List Oper} {S : Nat → Prop} (hS : Closed ops S) {i : Nat} {o : Oper} (ho : ops[i]? = some o) (hlt : ∀ e ∈ o.after.toList, Region.binds .any e = true → e.on < i) (hr : ∀ e ∈ o.after.toList, Region.binds .any e = true → S e.on) :
    ∀ j, beforeOk (masks ops []) j i = true → S j := fun j hj => by
  obtain ⟨e, he, hb, hh⟩ := masks_bit ops [] i o ho j (by simpa [beforeOk] using hj)
  rcases hh with rfl | hh
  · exact hr e he hb
  · exact hS e.on (hr e he hb) j (hh (by simpa using hlt e he hb))

/-- What an operation has come to in the text's order. -/
inductive StepA (X : Cx) (fns : Nat → Option Func) (rec : Rec) (fr : Fr) (u : FrameMode) (base : Nat) (all : List Oper) (i : Nat) (o : Oper) (env : Env) (H : Hp) (e : Te) (H' : Hp) (al : Option Ob) : Prop
  | skip (hw : wantedA all env o = false) (he : e.w = false) (hv : e.v = undef) (hh : H' = H) (ha : al = none)
  | quiet (hw : wantedA all env o = true) (he : e.w = true) (hok : o.op.operands.toList.all opndOk = true) (hq : quietOp X o.op = true) (hv : quietVal X o env H = some e.v) (hh : H' = H) (ha : al = none)
  | alloc (hw : wantedA all env o = true) (he : e.w = true) (hok : o.op.operands.toList.all opndOk = true) (hq : quietOp X o.op = false) (hal : allocOp o.op = true) (ob : Ob) (mk : Nat → Value) (hm : allocA X o.op (opnd env) = some (ob, mk)) (hv : e.v = mk (base + i))
      (hh : H' = H.set (base + i) ob) (ha : al = some ob)
  | eff (hw : wantedA all env o = true) (he : e.w = true) (hq : quietOp X o.op = false) (hal : allocOp o.op = false) (u' : FrameMode) (hr : opRes X fns rec fr u env H o = some (.val e.v u' H')) (ha : al = none)

/-- Is a wanted effect. -/
def isEff (X : Cx) (ops : List Oper) (es : List Te) (i : Nat) : Bool := match ops[i]?, es[i]? with
  | some o, some e => e.w && effOp X o.op
  | _, _ => false

def ec (X : Cx) (ops : List Oper) (es : List Te) : Nat → Nat
  | 0 => 0
  | p + 1 => ec X ops es p + (if isEff X ops es p then 1 else 0)

theorem tx_lay {X : Cx} {fns : Nat → Option Func} {rec : Rec} {fr : Fr} {u : FrameMode} {base : Nat} {all : List Oper} : ∀ (os : List Oper) (i : Nat) (env : Env) (H : Hp) (es : List Te) (Gs : List Hp) (H' : Hp), tx X fns rec fr u base all os i env H = some (es, Gs, H') →
    es.length = os.length ∧ ∃ (hp : Nat → Hp) (ev : Nat → Env) (al : Nat → Option Ob), hp 0 = H ∧ hp os.length = H' ∧ ev 0 = env ∧ ev os.length = lastEnv fr os es env ∧
      (∀ d o e, os[d]? = some o → es[d]? = some e → e.env = ev d ∧ ev (d + 1) = (ev d).put fr.nt o.dst e.v ∧ StepA X fns rec fr u base all (i + d) o (ev d) (hp d) e (hp (d + 1)) (al d)) ∧
      (∀ d, isEff X os es d = true → Gs[ec X os es d]? = some (hp (d + 1)))
  | [], i, env, H, es, Gs, H', h => by
    simp only [tx, Option.some.injEq, Prod.mk.injEq] at h
    obtain ⟨rfl, rfl, rfl⟩ := h
    exact ⟨rfl, fun _ => H, fun _ => env, fun _ => none, rfl, rfl, rfl, rfl, fun d o e h => by simp at h, fun d h => by simp [isEff] at h⟩
  | o :: os, i, env, H, es, Gs, H', h => by
    have glue : ∀ (e : Te) (H1 : Hp) (es1 : List Te) (Gs1 : List Hp) (a : Option Ob) (Gs : List Hp), e.env = env → StepA X fns rec fr u base all i o env H e H1 a → tx X fns rec fr u base all os (i + 1) (env.put fr.nt o.dst e.v) H1 = some (es1, Gs1, H') →
        ((e.w && effOp X o.op) = true → Gs = H1 :: Gs1) → ((e.w && effOp X o.op) = false → Gs = Gs1) →
        (e :: es1).length = (o :: os).length ∧ ∃ (hp : Nat → Hp) (ev : Nat → Env) (al : Nat → Option Ob), hp 0 = H ∧ hp (o :: os).length = H' ∧ ev 0 = env ∧ ev (o :: os).length = lastEnv fr (o :: os) (e :: es1) env ∧
          (∀ d p q, (o :: os)[d]? = some p → (e :: es1)[d]? = some q → q.env = ev d ∧ ev (d + 1) = (ev d).put fr.nt p.dst q.v ∧ StepA X fns rec fr u base all (i + d) p (ev d) (hp d) q (hp (d + 1)) (al d)) ∧
          (∀ d, isEff X (o :: os) (e :: es1) d = true → Gs[ec X (o :: os) (e :: es1) d]? = some (hp (d + 1))) := by
      intro e H1 es1 Gs1 a Gs hee hst hrest hg1 hg0
      obtain ⟨hl, hp, ev, al, h1, h2, h3, h4, h5, h6⟩ := tx_lay os (i + 1) _ _ _ _ _ hrest
      have hec : ∀ d, ec X (o :: os) (e :: es1) (d + 1) = (if (e.w && effOp X o.op) = true then 1 else 0) + ec X os es1 d := by
        intro d
        induction d with
        | zero => simp [ec, isEff]
        | succ d ih =>
          rw [ec, ih]
          have : isEff X (o :: os) (e :: es1) (d + 1) = isEff X os es1 d := by simp [isEff]
          rw [this, ec, Nat.add_assoc]
      refine ⟨by simp [hl], fun | 0 => H | d + 1 => hp d, fun | 0 => env | d + 1 => ev d, fun | 0 => a | d + 1 => al d, rfl, h2, rfl, ?_, ?_, ?_⟩
      · simp only [List.length_cons, lastEnv]; exact h4
      · intro d p q hd hq
        cases d with
        | zero =>
          simp at hd hq; subst hd hq
          exact ⟨hee, h3, by show StepA X fns rec fr u base all i o env H e (hp 0) a; rw [h1]; exact hst⟩
        | succ d =>
          simp at hd hq
          have := h5 d p q hd hq
          rw [show i + (d + 1) = i + 1 + d by omega]
          exact this
      · intro d hd
        cases d with
        | zero =>
          have : (e.w && effOp X o.op) = true := by simpa [isEff] using hd
          rw [hg1 this]; simp [ec, h1]
        | succ d =>
          have hd' : isEff X os es1 d = true := by simpa [isEff] using hd
          rw [hec]
          by_cases c : (e.w && effOp X o.op) = true
          · rw [if_pos c, hg1 c, Nat.add_comm, List.getElem?_cons_succ]; exact h6 d hd'
          · rw [if_neg c, hg0 (by simpa using c), Nat.zero_add]; exact h6 d hd'
    unfold tx at h
    cases hw : wantedA all env o with
    | false =>
      rw [hw] at h
      simp only [cond_false, Option.map_eq_some_iff, Prod.mk.injEq] at h
      obtain ⟨⟨es1, Gs1, H2⟩, hr, rfl, rfl, rfl⟩ := h
      exact glue ⟨env, undef, false⟩ H es1 Gs1 none Gs1 rfl (.skip hw rfl rfl rfl rfl) hr (fun hh => by simp at hh) (fun _ => rfl)
    | true =>
      rw [hw] at h
      simp only [cond_true] at h
      obtain ⟨hok, h⟩ := bif_some h
      cases hq : quietOp X o.op with
      | true =>
        rw [hq] at h
        simp only [cond_true, Option.bind_eq_some_iff, Option.map_eq_some_iff, Prod.mk.injEq] at h
        obtain ⟨v, hv, ⟨es1, Gs1, H2⟩, hr, rfl, rfl, rfl⟩ := h
        exact glue ⟨env, v, true⟩ H es1 Gs1 none Gs1 rfl (.quiet hw rfl hok hq hv rfl rfl) hr (fun hh => by simp [effOp, hq] at hh) (fun _ => rfl)
      | false =>
        rw [hq] at h
        simp only [cond_false] at h
        cases ha : allocOp o.op with
        | true =>
          rw [ha] at h
          simp only [cond_true, Option.bind_eq_some_iff, Option.map_eq_some_iff, Prod.mk.injEq] at h
          obtain ⟨⟨ob, mk⟩, hv, ⟨es1, Gs1, H2⟩, hr, rfl, rfl, rfl⟩ := h
          exact glue ⟨env, mk (base + i), true⟩ _ es1 Gs1 (some ob) Gs1 rfl (.alloc hw rfl hok hq ha ob mk hv rfl rfl rfl) hr (fun hh => by simp [effOp, ha] at hh) (fun _ => rfl)
        | false =>
          rw [ha] at h
          simp only [cond_false] at h
          split at h
          · rename_i v u1 H1 hres
            simp only [Option.map_eq_some_iff, Prod.mk.injEq] at h
            obtain ⟨⟨es1, Gs1, H2⟩, hr, rfl, rfl, rfl⟩ := h
            exact glue ⟨env, v, true⟩ H1 es1 Gs1 none (H1 :: Gs1) rfl (.eff hw rfl hq ha u1 hres rfl) hr (fun _ => rfl) (fun hh => by simp [effOp, hq, ha] at hh)
          · cases h
end Go.Am
