/- Regions that draw: one more operation. -/
/- Regions that draw: the temporaries behind one more operation; any order. -/
/- Regions that draw: any order. -/
/- Regions that draw: the schedule. -/
/- Regions that draw: what floats; the whole. -/
import Derived.Test.YtmbiniafgdbbfaaGreatAmT
set_option linter.unusedSimpArgs false
set_option linter.unusedVariables false
set_option linter.unusedVariables false
namespace Go.Am

section
variable {X : Cx} {fns : Nat → Option Func} {rec : Rec} {fr : Fr} {u : FrameMode} {w0 : World} {ops : List Oper} {es : List Te} {hp : Nat → Hp} {ev : Nat → Env} {al : Nat → Option Ob} {base s0 : Nat} {S S' : Nat → Prop} {p i : Nat} {ι : Iota} {w : World}

/-- One that neither makes an object nor has an effect. -/
theorem Phi.quiet (h : Phi X w0 ops es hp al base s0 S p ι w) (hS : ∀ a, S' a ↔ S a ∨ a = i) (hal : al i = none) (hne : isEff X ops es i = false) {w' : World} (hI : Inv w0 ι (hp p) w') (hT : Tran ι (hp p) w ι (hp p) w') :
    Phi X w0 ops es hp al base s0 S' p ι w' where
  inv := hI
  ple := h.ple
  last := h.last.imp id fun ⟨a, b, c⟩ => ⟨a, (hS _).2 (.inl b), c⟩
  effs a ha he := by
    rcases (hS a).1 ha with h1 | rfl
    · exact h.effs a h1 he
    · rw [hne] at he; cases he
  free a ha hf := h.free a ha fun hs => hf ((hS a).2 (.inl hs))
  unset := h.unset
  pend a ob hlt ha hp1 hal1 := by
    have hs : S a := by
      rcases (hS a).1 ha with h1 | rfl
      · exact h1
      · rw [hal] at hal1; cases hal1
    obtain ⟨B, x, hB, hx, hob, hs0, hD1, hD2⟩ := h.pend a ob hlt hs hp1 hal1
    refine ⟨B, x, hB, ?_, hob, hs0, hD1, fun a' ob' C q1 q2 q3 q4 q5 q6 => ?_⟩
    · rw [hT.frame B.block (size_lt hx) fun n o C hn hc => hD1 n o C hn hc]; exact hx
    · have : S a' := by
        rcases (hS a').1 q2 with h1 | rfl
        · exact h1
        · rw [hal] at q5; cases q5
      exact hD2 a' ob' C q1 this q3 q4 q5 q6
  next := h.next
  size := Nat.le_trans h.size hT.size

/-- One that makes an object. -/
theorem Phi.alloc (h : Phi X w0 ops es hp al base s0 S p ι w) (hS : ∀ a, S' a ↔ S a ∨ a = i) (hi : i < ops.length) (hpi : p ≤ i) (hni : ¬ S i) {ob : Ob} (hal : al i = some ob) (hne : isEff X ops es i = false) (c : Nat) {x : Obj}
    (hob : ∀ ι', Ext ι ι' → ι' (base + i) = some ⟨w.heap.size, 0, c⟩ → ObR ι' ⟨w.heap.size, 0, c⟩ ob x) :
    ∃ ι', Ext ι ι' ∧ ι' (base + i) = some ⟨w.heap.size, 0, c⟩ ∧ Phi X w0 ops es hp al base s0 S' p ι' (pushW w x) ∧ ∀ ι0 Hs ws, Tran ι0 Hs ws ι (hp p) w → Hs.next ≤ base → Tran ι0 Hs ws ι' (hp p) (pushW w x) := by
  have h0 : ι (base + i) = none := h.free i hi fun hs => absurd hs hni
  have hu : (hp p).get (base + i) = none := h.unset i hpi hi
  have hnx : base + i < (hp p).next := by have := h.next; omega
  obtain ⟨ι', hE, hi', hoth, hI⟩ := h.inv.put hnx h0 c (o := ob) (x := x) hob
  have hlt : base + i < FB := Nat.lt_of_lt_of_le hnx h.inv.next
  have hI2 : Inv w0 ι' (hp p) (pushW w x) := hI.sub (fun n o hn => by
    have : ((hp p).set (base + i) ob).get n = if n = base + i then some ob else (hp p).get n := Hp.get_set hlt ob n
    rw [this]
    by_cases e : n = base + i
    · subst e; rw [hu] at hn; cases hn
    · rw [if_neg e]; exact hn) (Nat.le_refl _) h.inv.next
  have hheap : ∀ b, b < w.heap.size → (pushW w x).heap[b]? = w.heap[b]? := fun b hb => by
    simp only [pushW]; rw [Array.getElem?_push, if_neg (Nat.ne_of_lt hb)]
  have hsz : (pushW w x).heap.size = w.heap.size + 1 := Array.size_push ..
  refine ⟨ι', hE, hi', ⟨hI2, h.ple, h.last.imp id fun ⟨a, b, d⟩ => ⟨a, (hS _).2 (.inl b), d⟩, fun a ha he => ?_, fun a ha hf => ?_, h.unset, fun a ob1 hlt1 ha hp1 hal1 => ?_, h.next, by rw [hsz]; have := h.size; omega⟩, fun ι0 Hs ws hT0 hbs => ⟨hT0.ext.trans hE, fun n B hn => ?_, hT0.next, by rw [hsz]; have := hT0.size; omega, fun b hb hq => (hheap b (Nat.lt_of_lt_of_le hb hT0.size)).trans (hT0.frame b hb hq), fun n o B hn hB hb => ?_⟩⟩
  · rcases (hS a).1 ha with h1 | rfl
    · exact h.effs a h1 he
    · rw [hne] at he; cases he
  · have hai : a ≠ i := fun e => by subst e; have := hf ((hS a).2 (.inr rfl)); rw [hal] at this; cases this
    rw [hoth _ (by omega)]
    exact h.free a ha fun hs => hf ((hS a).2 (.inl hs))
  · by_cases e : a = i
    · subst e
      rw [hal] at hal1; cases hal1
      refine ⟨_, x, hi', Array.getElem?_push_size, hob ι' hE hi', h.size, fun m o C hm hc => ?_, fun a' ob' C q1 q2 q3 q4 q5 q6 => ?_⟩
      · have hne2 : m ≠ base + a := fun e => by subst e; rw [hu] at hm; cases hm
        rw [hoth m hne2] at hc
        have := (h.inv.dom m C hc).2.1
        exact Nat.ne_of_lt this
      · rw [hoth _ (by omega)] at q6
        have := (h.inv.dom _ C q6).2.1
        exact Nat.ne_of_lt this
    · have hs : S a := ((hS a).1 ha).resolve_right e
      obtain ⟨B, y, hB, hx, hob1, hs0, hD1, hD2⟩ := h.pend a ob1 hlt1 hs hp1 hal1
      refine ⟨B, y, hE _ _ hB, (hheap _ (size_lt hx)).trans hx, hob1.mono hE, hs0, fun m o C hm hc => ?_, fun a' ob' C q1 q2 q3 q4 q5 q6 => ?_⟩
      · have hne2 : m ≠ base + i := fun e => by subst e; rw [hu] at hm; cases hm
        rw [hoth m hne2] at hc
        exact hD1 m o C hm hc
      · by_cases e2 : a' = i
        · subst e2
          rw [hi'] at q6; cases q6
          exact (Nat.ne_of_lt (size_lt hx)).symm
        · rw [hoth _ (by omega)] at q6
          exact hD2 a' ob' C q1 (((hS a').1 q2).resolve_right e2) q3 q4 q5 q6
  · by_cases e : n = base + i
    · exact .inr (by omega)
    · rw [hoth n e] at hn; exact hT0.new n B hn
  · have hne2 : n ≠ base + i := fun e => by subst e; rw [hu] at hn; cases hn
    rw [hoth n hne2] at hB
    exact hT0.mono n o B hn hB hb

/-- An effect. -/
theorem Phi.eff (h : Phi X w0 ops es hp al base s0 S p ι w) (hS : ∀ a, S' a ↔ S a ∨ a = i) (hi : i < ops.length) (hpi : p ≤ i) (hal : al i = none) (hef : isEff X ops es i = true) (hIi : Inv w0 ι (hp i) w) (hN : (hp i).next = (hp p).next)
    (hG : ∀ m o, (hp i).get m = some o → (hp p).get m = some o ∨ ∃ a ob, p ≤ a ∧ a < i ∧ S a ∧ al a = some ob ∧ m = base + a) {ι' : Iota} {w' : World} (hI : Inv w0 ι' (hp (i + 1)) w') (hT : Tran ι (hp i) w ι' (hp (i + 1)) w') :
    Phi X w0 ops es hp al base s0 S' (i + 1) ι' w' := by
  have hnx := h.next
  -- a live object's block is none of those kept for later
  have apart : ∀ a ob, a < ops.length → S a → i ≤ a → al a = some ob → ∃ B x, ι (base + a) = some B ∧ w.heap[B.block]? = some x ∧ ObR ι B ob x ∧ s0 ≤ B.block ∧ (∀ m o C, (hp i).get m = some o → ι m = some C → C.block ≠ B.block) ∧
      (∀ a' ob' C, a' < ops.length → S a' → p ≤ a' → a' ≠ a → al a' = some ob' → ι (base + a') = some C → C.block ≠ B.block) := by
    intro a ob hlt hs hia hal1
    obtain ⟨B, x, hB, hx, hob, hs0, hD1, hD2⟩ := h.pend a ob hlt hs (by omega) hal1
    refine ⟨B, x, hB, hx, hob, hs0, fun m o C hm hc => ?_, hD2⟩
    rcases hG m o hm with h1 | ⟨a', ob', q1, q2, q3, q4, rfl⟩
    · exact hD1 m o C h1 hc
    · exact hD2 a' ob' C (by omega) q3 q1 (by omega) q4 hc
  have apart' : ∀ a ob, a < ops.length → S a → i ≤ a → al a = some ob → ∀ B, ι (base + a) = some B → ∀ m o C, (hp (i + 1)).get m = some o → ι' m = some C → C.block ≠ B.block := by
    intro a ob hlt hs hia hal1 B hB m o C hm hc e
    obtain ⟨B', x, hB', hx, _, _, hD1, _⟩ := apart a ob hlt hs hia hal1
    rw [hB] at hB'; cases hB'
    obtain ⟨m2, o2, C2, g1, g2, g3⟩ := hT.mono m o C hm hc (by rw [e]; exact size_lt hx)
    exact hD1 m2 o2 C2 g1 g2 (g3.trans e)
  have old : ∀ a B, a < ops.length → ι' (base + a) = some B → ι (base + a) = some B := fun a B ha hB => by
    rcases hT.new _ B hB with h1 | h1
    · exact h1
    · omega
  refine ⟨hI, hi, .inr ⟨by omega, (hS _).2 (.inr rfl), hef⟩, fun a ha he => ?_, fun a ha hf => ?_, fun a ha1 ha2 => ?_, fun a ob hlt ha hp1 hal1 => ?_, by have := hT.next; omega, Nat.le_trans h.size hT.size⟩
  · rcases (hS a).1 ha with h1 | rfl
    · have := h.effs a h1 he; omega
    · omega
  · cases hn : ι' (base + a) with
    | none => rfl
    | some B =>
      have := old a B ha hn
      rw [h.free a ha fun hs => hf ((hS a).2 (.inl hs))] at this; cases this
  · cases hn : (hp (i + 1)).get (base + a) with
    | none => rfl
    | some o =>
      obtain ⟨B, x, hB, _, _⟩ := hI.live _ o hn
      have hB0 := old a B ha2 hB
      exfalso
      cases hq : al a with
      | none => rw [h.free a ha2 fun _ => hq] at hB0; cases hB0
      | some ob =>
        by_cases hs : S a
        · exact apart' a ob ha2 hs (by omega) hq B hB0 _ o B hn hB rfl
        · rw [h.free a ha2 fun hs' => absurd hs' hs] at hB0; cases hB0
  · have hai : a ≠ i := by omega
    have hs : S a := ((hS a).1 ha).resolve_right hai
    obtain ⟨B, x, hB, hx, hob, hs0, hD1, hD2⟩ := apart a ob hlt hs (by omega) hal1
    refine ⟨B, x, hT.ext _ _ hB, ?_, hob.mono hT.ext, hs0, fun m o C hm hc => apart' a ob hlt hs (by omega) hal1 B hB m o C hm hc, fun a' ob' C q1 q2 q3 q4 q5 q6 => ?_⟩
    · rw [hT.frame B.block (size_lt hx) fun n o C hn hc => hD1 n o C hn hc]; exact hx
    · have hs' : S a' := ((hS a').1 q2).resolve_right (by omega)
      exact hD2 a' ob' C q1 hs' (by omega) q4 q5 (old a' C q1 q6)
end
end Go.Am
set_option linter.unusedVariables false
namespace Go.Am

theorem yielded_ok' {ι : Iota} {ops : Array Oper} {env : Env} {tmps : Array Value} (j : Nat) (h : ∀ d, (ops[j]?).bind (·.dst) = some d → VR ι (env.val d) (tmps.getD d undef)) : yielded ops tmps j = yieldedA ops.toList env j := by
  simp only [yielded, yieldedA, Array.getElem?_toList]
  cases h1 : (ops[j]?).bind (·.dst) with
  | none => rfl
  | some d =>
    simp only [Option.bind_some]
    have hv := h d h1
    rw [Array.getD_eq_getD_getElem?] at hv
    cases h2 : tmps[d]? with
    | none =>
      rw [h2] at hv
      simp only [Option.getD_none, undef] at hv
      generalize env.val d = x at *
      cases hv; rfl
    | some y =>
      rw [h2] at hv
      simp only [Option.getD_some] at hv
      generalize env.val d = x at *
      cases hv <;> rfl

theorem wanted_ok' {ι : Iota} {ops : Array Oper} {env : Env} {tmps : Array Value} (o : Oper) (h : ∀ d, d ∈ looksA ops.toList o → VR ι (env.val d) (tmps.getD d undef)) : Region.wanted o (yielded ops tmps) = wantedA ops.toList env o := by
  simp only [Region.wanted, wantedA]
  cases hg : o.guard with
  | none => rfl
  | some g =>
    obtain ⟨j, want⟩ := g
    have := yielded_ok' (ι := ι) (ops := ops) (env := env) (tmps := tmps) j fun d hd => h d (by
      simp only [looksA, hg, List.mem_append]
      right
      simp only [Array.getElem?_toList]
      rw [hd]; simp)
    simp only [this]

section
variable {ops : List Oper} {es : List Te} {nt : Nat} {env0 : Env} {S S' : Nat → Prop} {i : Nat} {ι : Iota}

theorem vals_put (hS : ∀ a, S' a ↔ S a ∨ a = i) {o : Oper} (ho : ops[i]? = some o) {e : Te} (he : es[i]? = some e) (hlater : ∀ j p t, ops[j]? = some p → p.dst = some t → o.dst = some t → i < j → ¬ S j) {tmps : Array Value} (hsz : tmps.size = nt)
    (h : ∀ t, VR ι (valS ops es nt env0 S t ops.length) (tmps.getD t undef)) {v' : Value} (hv : VR ι e.v v') : ∀ t, VR ι (valS ops es nt env0 S' t ops.length) ((putT tmps o.dst v').getD t undef) := by
  intro t
  have hi : i < ops.length := by
    rcases Nat.lt_or_ge i ops.length with h' | h'
    · exact h'
    · simp [List.getElem?_eq_none h'] at ho
  by_cases hw : wr ops nt i t
  · have hd : o.dst = some t := by have := hw.1; rw [ho] at this; exact this
    rw [valS_cut ops es nt env0 (m := i + 1) ops.length hi (fun j h1 h2 h3 h4 => by
      have h5 : S j := ((hS j).1 h4).resolve_right (by omega)
      have hj := List.getElem?_eq_getElem h2
      have h6 := h3.1
      rw [hj] at h6
      exact hlater j _ t hj h6 hd (by omega) h5)]
    simp only [valS]
    rw [if_pos ⟨(hS i).2 (.inr rfl), hw⟩, he]
    have ht : t < tmps.size := by rw [hsz]; exact hw.2
    have : (putT tmps o.dst v').getD t undef = v' := by rw [hd]; simp [putT, Array.getD, ht]
    rw [this]; exact hv
  · rw [valS_of ops es nt env0 (S := S') (S' := S) ops.length fun j _ h2 => by
      have : j ≠ i := fun e => by subst e; exact hw h2
      rw [hS]; exact ⟨fun h => h.resolve_right this, .inl⟩]
    have : (putT tmps o.dst v').getD t undef = tmps.getD t undef := by
      cases hd : o.dst with
      | none => rfl
      | some d =>
        simp only [putT]
        by_cases e : d = t
        · subst e
          have : ¬ d < nt := fun hh => hw ⟨by rw [ho]; exact hd, hh⟩
          rw [Array.setIfInBounds_eq_of_size_le (by rw [hsz]; exact Nat.le_of_not_lt this)]
        · simp only [Array.getD_eq_getD_getElem?, Array.getElem?_setIfInBounds_ne e]
    rw [this]; exact h t

/-- The text's environment. -/
theorem env_val {ev : Nat → Env} (hn : nt ≤ 65536) (h0 : ev 0 = env0) (hst : ∀ d o e, ops[d]? = some o → es[d]? = some e → ev (d + 1) = (ev d).put nt o.dst e.v) (hl : es.length = ops.length) (t : Nat) : ∀ m, m ≤ ops.length → (ev m).val t = valS ops es nt env0 (fun _ => True) t m
  | 0, _ => by rw [h0]; rfl
  | m + 1, hm => by
    have ho := List.getElem?_eq_getElem (show m < ops.length by omega)
    have he := List.getElem?_eq_getElem (show m < es.length by omega)
    rw [hst m _ _ ho he]
    have ih := env_val hn h0 hst hl t m (by omega)
    simp only [valS]
    by_cases hw : wr ops nt m t
    · rw [if_pos ⟨trivial, hw⟩, he]
      have hd := hw.1
      rw [ho] at hd
      have hd' : ops[m].dst = some t := hd
      have c2 : t < FB := Nat.lt_of_lt_of_le hw.2 (Nat.le_trans hn (by decide))
      have e : (Nat.blt t nt && Nat.blt t FB) = true := by simp [blt_dec, hw.2, c2]
      simp only [Env.put, hd', e, cond_true, Env.val]
      have hg : ((ev m).set 40 t (some es[m].v)).get t = if t = t then some es[m].v else (ev m).get t := Tr.get_set 40 (ev m) t t _ c2
      rw [hg, if_pos rfl]; rfl
    · rw [if_neg (fun hh => hw hh.2), ← ih]
      cases hd : ops[m].dst with
      | none => rfl
      | some d =>
        simp only [Env.put]
        cases hb : (Nat.blt d nt && Nat.blt d FB) with
        | false => rfl
        | true =>
          simp only [blt_dec, Bool.and_eq_true, decide_eq_true_eq] at hb
          have hne : t ≠ d := fun e => hw ⟨by rw [ho, e]; exact hd, by rw [e]; exact hb.1⟩
          simp only [cond_true, Env.val]
          have hg : ((ev m).set 40 d (some es[m].v)).get t = if t = d then some es[m].v else (ev m).get t := Tr.get_set 40 (ev m) d t _ hb.2
          rw [hg, if_neg hne]
end
end Go.Am
set_option linter.unusedVariables false
namespace Go.Am

theorem opRes_mode {X : Cx} {fns : Nat → Option Func} {rec : Rec} {fr : Fr} {u u' : FrameMode} {env : Env} {H H' : Hp} {o : Oper} {v : Value} (hnr : ∀ c, o.op = .call c → c.callee ≠ .builtin .recover) (h : opRes X fns rec fr u env H o = some (.val v u' H')) : u' = u := by
  unfold opRes at h
  obtain ⟨_, h⟩ := bif_some h
  split at h
  · rename_i c e
    split at h
    · rename_i hc; exact absurd hc (hnr c e)
    · simp only [Option.map_eq_some_iff] at h; obtain ⟨_, _, h⟩ := h; cases h; rfl
    · simp only [Option.map_eq_some_iff] at h
      obtain ⟨⟨en, H1⟩, _, h⟩ := h
      cases en <;> cases h; rfl
    · cases h
  · split at h
    · split at h <;> cases h
    · cases h
  · split at h <;> cases h
  · simp only [Option.map_eq_some_iff] at h; obtain ⟨_, _, h⟩ := h; cases h; rfl

/-- The state behind the operations of S. -/
def DSt (X : Cx) (w0 : World) (ops : Array Oper) (es : List Te) (hp : Nat → Hp) (al : Nat → Option Ob) (ev : Nat → Env) (base : Nat) (ι0 : Iota) (Hs : Hp) (ws : World) (fr : Fr) (u : FrameMode) (cs : List Frame) (m : Machine) (F : Frame) (ds' : List Deferred) (k : List Item) (S : Nat → Prop) (l : List Nat) : Prop :=
  ∃ p ι w cs1 tmps, Phi X w0 ops.toList es hp al base ws.heap.size S p ι w ∧ Tran ι0 Hs ws ι (hp p) w ∧ CalOut ι fr.kind u u cs cs1 ∧ tmps.size = fr.nt ∧ (∀ t, VR ι (valS ops.toList es fr.nt (ev 0) S t ops.toList.length) (tmps.getD t undef)) ∧ Steps X.P m (lone (F.inR tmps ds' ops l k) cs1 w)

section
variable {X : Cx} {fns : Nat → Option Func} {rec : Rec} {fr : Fr} {u : FrameMode} {w0 : World} {ops : Array Oper} {es : List Te} {hp : Nat → Hp} {ev : Nat → Env} {al : Nat → Option Ob} {base : Nat} {S S' : Nat → Prop} {i : Nat} {ι0 : Iota} {Hs : Hp} {ws : World}
  {cs : List Frame} {m : Machine} {F : Frame} {ds' : List Deferred} {k : List Item} {rest : List Nat} {o : Oper}

theorem drawn_step (hSd : Sound X.P w0 rec) (hP : FnsOk X.P fns) (hQ : PrimOk X w0) (R : RoOk X w0) (hm : F.mode = .run) (hk : F.kind = fr.kind) (hr : fr.round = none → F.roundOf = none) (D : DrawFacts X ops.toList) (L : Lay X fns rec fr u base ops.toList es hp ev al) (hn : fr.nt ≤ 65536)
    (hbs : Hs.next ≤ base) (hst : DSt X w0 ops es hp al ev base ι0 Hs ws fr u cs m F ds' k S (i :: rest)) (ho : ops[i]? = some o) (hni : ¬ S i) (hcl : Closed ops.toList S) (hah : ∀ j, beforeOk (masks ops.toList []) j i = true → S j) (hS : ∀ a, S' a ↔ S a ∨ a = i)
    (QF : ∀ p ι w, Phi X w0 ops.toList es hp al base ws.heap.size S p ι w → ∀ e, es[i]? = some e → wantedA ops.toList (ev i) o = true → quietOp X o.op = true → quietVal X o (ev i) (hp p) = some e.v) :
    DSt X w0 ops es hp al ev base ι0 Hs ws fr u cs m F ds' k S' rest := by
  obtain ⟨p, ι, w, cs1, tmps, hPhi, hT0, hCo, hsz, hval, hsteps⟩ := hst
  have hoL : ops.toList[i]? = some o := by simpa using ho
  have hi : i < ops.toList.length := by
    rcases Nat.lt_or_ge i ops.toList.length with h' | h'
    · exact h'
    · rw [List.getElem?_eq_none h'] at hoL; cases hoL
  obtain ⟨e, he⟩ : ∃ e, es[i]? = some e := ⟨_, List.getElem?_eq_getElem (show i < es.length by rw [L.len]; exact hi)⟩
  obtain ⟨hee, hev, hstep⟩ := L.st i o e hoL he
  have hlook : ∀ t, t ∈ looksA ops.toList o → VR ι ((ev i).val t) (tmps.getD t undef) := fun t ht => by
    rw [env_val (ops := ops.toList) (es := es) hn rfl (fun d o e h1 h2 => (L.st d o e h1 h2).2.1) L.len t i (Nat.le_of_lt hi)]
    have h1 : valS ops.toList es fr.nt (ev 0) S t ops.toList.length = valS ops.toList es fr.nt (ev 0) S t i := valS_cut _ _ _ _ _ (Nat.le_of_lt hi) fun j h1 h2 h3 h4 => by
      have hj := List.getElem?_eq_getElem h2
      have h5 := h3.1
      rw [hj] at h5
      rcases D.looks i o t j _ hoL ht hj h5 with rfl | ⟨h6, _⟩ | ⟨_, h6⟩
      · exact hni h4
      · omega
      · exact hni (hcl j h4 i h6)
    have h2 : valS ops.toList es fr.nt (ev 0) S t i = valS ops.toList es fr.nt (ev 0) (fun _ => True) t i := valS_of _ _ _ _ i fun j h1 h3 => by
      have hj := List.getElem?_eq_getElem (show j < ops.toList.length by omega)
      have h5 := h3.1
      rw [hj] at h5
      refine ⟨fun _ => trivial, fun _ => ?_⟩
      rcases D.looks i o t j _ hoL ht hj h5 with rfl | ⟨_, h6⟩ | ⟨h6, _⟩
      · omega
      · exact hah j h6
      · omega
    rw [← h2, ← h1]; exact hval t
  have hlater : ∀ j p t, ops.toList[j]? = some p → p.dst = some t → o.dst = some t → i < j → ¬ S j := fun j p t hj hd hod hij hs => by
    have ht : t ∈ looksA ops.toList o := by simp [looksA, hod]
    rcases D.looks i o t j p hoL ht hj hd with rfl | ⟨h6, _⟩ | ⟨_, h6⟩
    · omega
    · omega
    · exact hni (hcl j hs i h6)
  have hwant := wanted_ok' (ι := ι) (ops := ops) (env := ev i) (tmps := tmps) o hlook
  have hopt : ∀ t, Operand.tmp t ∈ o.op.operands.toList → VR ι ((ev i).val t) (tmps.getD t undef) := fun t ht => hlook t (by
    simp only [looksA, List.mem_append, List.mem_filterMap]
    exact .inl (.inl ⟨.tmp t, ht, rfl⟩))
  have hρ : o.op.operands.toList.all opndOk = true → ∀ x ∈ o.op.operands.toList, VR ι (opnd (ev i) x) ((F.inR tmps ds' ops (i :: rest) k).eval x) := fun hok x hx => by
    have := List.all_eq_true.1 hok x hx
    cases x with
    | tmp t => exact hopt t hx
    | const v => exact VR.closed v this
    | global g => cases this
    | func f => exact .fn f .nil .nil
  have hap : wantedA ops.toList (ev i) o = true → Ap X.P (lone (F.inR tmps ds' ops (i :: rest) k) cs1 w) (F.inR tmps ds' ops (i :: rest) k) cs1 (execOp (F.inR tmps ds' ops (i :: rest) k).eval o) w := fun hw =>
    ap_op (by exact hm) rfl ho (by rw [← hwant] at hw; exact hw) (.inr fun c => D.nodef i o c hoL)
  have hpi : quietOp X o.op = false → p ≤ i := fun hq => by
    rcases hPhi.last with rfl | ⟨h1, h2, h3⟩
    · omega
    · by_cases c : p ≤ i
      · exact c
      · exfalso
        have hne : i ≠ p - 1 := fun e => hni (e ▸ h2)
        obtain ⟨op1, hp1⟩ : ∃ o, ops.toList[p - 1]? = some o := ⟨_, List.getElem?_eq_getElem (show p - 1 < ops.toList.length by have := hPhi.ple; omega)⟩
        have hf : effOp X op1.op = true := by
          have hp2 := List.getElem?_eq_getElem (show p - 1 < es.length by rw [L.len]; have := hPhi.ple; omega)
          simp only [isEff, hp1, hp2, Bool.and_eq_true] at h3
          exact h3.2
        exact hni (hcl _ h2 i (D.eff i o (p - 1) _ hoL hq hp1 hf (by omega)))
  cases hstep with
  | skip hw hew hv hh ha =>
    have hne : isEff X ops.toList es i = false := by simp [isEff, hoL, he, hew]
    refine ⟨p, ι, w, cs1, putT tmps o.dst undef, hPhi.quiet hS ha hne hPhi.inv (Tran.refl _ _ _), hT0, hCo, by cases hd : o.dst <;> simp [putT, hsz], vals_put hS hoL he hlater hsz hval (by rw [hv]; exact .undef), hsteps.trans (.one (step_inR_skip hm ho (hwant.trans hw)))⟩
  | quiet hw hew hok hq hv hh ha =>
    have hne : isEff X ops.toList es i = false := by simp [isEff, hoL, he, effOp, hq]
    obtain ⟨w', v', hrun, hI, hT, hvr⟩ := quiet_ok hPhi.inv R (hρ hok) hq (QF p ι w hPhi e he hw hq)
    have hs : step X.P (lone (F.inR tmps ds' ops (i :: rest) k) cs1 w) = .next (lone (F.inR (putT tmps o.dst v') ds' ops rest k) cs1 w') := by
      rw [← inR_finish F tmps ds' ops i rest k v' ho]
      rcases hrun with h1 | ⟨h1, rfl⟩
      · exact (hap hw).value h1
      · exact (hap hw).skip h1
    exact ⟨p, ι, w', cs1, putT tmps o.dst v', hPhi.quiet hS ha hne hI hT, hT0.trans hT, hCo, by cases hd : o.dst <;> simp [putT, hsz], vals_put hS hoL he hlater hsz hval hvr, hsteps.trans (.one hs)⟩
  | alloc hw hew hok hq hal ob mk hmk hv hh ha =>
    have hne : isEff X ops.toList es i = false := by simp [isEff, hoL, he, effOp, hal]
    obtain ⟨x, v', c, hrun, hob⟩ := allocA_ok (w := w) (hρ hok) hmk
    obtain ⟨ι', hE, hi', hPhi', hTr⟩ := hPhi.alloc hS hi (hpi hq) hni ha hne c (x := x) fun ι' he hi => (hob ι' _ he hi).1
    have hs : step X.P (lone (F.inR tmps ds' ops (i :: rest) k) cs1 w) = .next (lone (F.inR (putT tmps o.dst v') ds' ops rest k) cs1 (pushW w x)) := by
      rw [← inR_finish F tmps ds' ops i rest k v' ho]
      exact (hap hw).value hrun
    exact ⟨p, ι', pushW w x, cs1, putT tmps o.dst v', hPhi', hTr ι0 Hs ws hT0 hbs, hCo.mono hE, by cases hd : o.dst <;> simp [putT, hsz], vals_put hS hoL he hlater hsz (fun t => (hval t).mono hE) (by rw [hv]; exact (hob ι' _ hE hi').2), hsteps.trans (.one hs)⟩
  | eff hw hew hq hal u' hres ha =>
    have hfo : effOp X o.op = true := by simp [effOp, hq, hal]
    have hef : isEff X ops.toList es i = true := by simp [isEff, hoL, he, hew, hfo]
    have hp1 := hpi hq
    have hopq : ∀ a, a < i → ∀ (oa : Oper), ops.toList[a]? = some oa → quietOp X oa.op = false → S a := fun a h1 oa h2 h3 => hah a (D.eff a oa i o h2 h3 hoL hfo h1)
    obtain ⟨hIi, hN, hG⟩ := hPhi.adv L i hp1 (Nat.le_of_lt hi) (fun a h1 h2 => by
      cases hea : isEff X ops.toList es a with
      | false => rfl
      | true =>
        exfalso
        obtain ⟨oa, hoa⟩ : ∃ o, ops.toList[a]? = some o := ⟨_, List.getElem?_eq_getElem (show a < ops.toList.length by omega)⟩
        have hea' := List.getElem?_eq_getElem (show a < es.length by rw [L.len]; omega)
        have hqa : quietOp X oa.op = false := by
          have h4 := hea
          simp only [isEff, hoa, hea', Bool.and_eq_true, effOp, Bool.not_eq_true'] at h4
          exact h4.2.1
        have := hPhi.effs a (hopq a h2 _ hoa hqa) hea
        omega) (fun a h1 h2 h3 => by
      have hoa := List.getElem?_eq_getElem (show a < ops.toList.length by omega)
      have hea' := List.getElem?_eq_getElem (show a < es.length by rw [L.len]; omega)
      cases (L.st a _ _ hoa hea').2.2 with
      | skip _ _ _ _ h5 => exact absurd h5 h3
      | quiet _ _ _ _ _ _ h5 => exact absurd h5 h3
      | alloc _ _ _ hqa _ _ _ _ _ _ _ => exact hopq a h2 _ hoa hqa
      | eff _ _ _ _ _ _ h5 => exact absurd h5 h3)
    have hu : u' = u := opRes_mode (fun c hc => D.norec i o c hoL hc) hres
    subst hu
    have hout := opRes_ok hSd hP hQ R hIi (fr := fr) (F := F.inR tmps ds' ops (i :: rest) k) (cs := cs1) (u := u') (m := lone (F.inR tmps ds' ops (i :: rest) k) cs1 w) hk (fun h0 => by exact hr h0) (fun t ht => hopt t ht) hCo.cal (fun _ => hap hw) (noCall_inR _ _ _ _ _ _) hres
    obtain ⟨ι', w', v', cs2, hI, hT, hvr, hC2, hs⟩ := hout
    rw [inR_finish _ _ _ _ _ _ _ _ ho] at hs
    have hTi : Tran ι0 Hs ws ι (hp i) w := ⟨hT0.ext, hT0.new, by rw [hN]; exact hT0.next, hT0.size, hT0.frame, fun n o2 B hn2 hB hb => by
      rcases hG n o2 hn2 with h1 | ⟨a, ob, q1, q2, q3, q4, rfl⟩
      · exact hT0.mono n o2 B h1 hB hb
      · exfalso
        obtain ⟨B', x, hB', _, _, hs0, _⟩ := hPhi.pend a ob (by omega) q3 q1 q4
        rw [hB] at hB'; cases hB'
        omega⟩
    exact ⟨i + 1, ι', w', cs2, putT tmps o.dst v', hPhi.eff hS hi hp1 ha hef hIi hN hG hI hT, hTi.trans hT, (hCo.mono hT.ext).trans hC2, by cases hd : o.dst <;> simp [putT, hsz], vals_put hS hoL he hlater hsz (fun t => (hval t).mono hT.ext) hvr, hsteps.trans hs⟩
end
end Go.Am
set_option linter.unusedVariables false
namespace Go.Am

def SL (listed : Array Bool) (a : Nat) : Prop := listed.getD a false = true

section
variable {X : Cx} {fns : Nat → Option Func} {rec : Rec} {fr : Fr} {u : FrameMode} {w0 : World} {ops : Array Oper} {es : List Te} {hp : Nat → Hp} {ev : Nat → Env} {al : Nat → Option Ob} {base : Nat} {ι0 : Iota} {Hs : Hp} {ws : World}
  {cs : List Frame} {m : Machine} {F : Frame} {ds' : List Deferred} {k : List Item}

theorem SL_set {listed : Array Bool} {i : Nat} (hi : i < listed.size) (a : Nat) : SL (listed.setIfInBounds i true) a ↔ SL listed a ∨ a = i := by
  simp only [SL, Array.getD_eq_getD_getElem?]
  by_cases e : a = i
  · subst e; simp [hi]
  · rw [Array.getElem?_setIfInBounds_ne (Ne.symm e)]; simp [e]

def unl (listed : Array Bool) : Nat := listed.toList.countP (fun b => !b)

theorem unl_set {listed : Array Bool} {i : Nat} (hi : i < listed.size) (h : ¬ SL listed i) : unl (listed.setIfInBounds i true) + 1 = unl listed := by
  have hf : listed.toList[i]'(by simpa using hi) = false := by
    simp only [SL, Array.getD_eq_getD_getElem?, Array.getElem?_eq_getElem hi, Option.getD_some, Bool.not_eq_true] at h
    simpa using h
  have hc : 0 < listed.toList.countP (fun b => !b) := List.countP_pos_iff.2 ⟨_, List.getElem_mem (by simpa using hi), by rw [hf]; rfl⟩
  simp only [unl, Array.toList_setIfInBounds]
  rw [List.countP_set (by simpa using hi), hf]
  simp only [Bool.not_false, Bool.not_true, if_true, Bool.false_eq_true, if_false]
  omega

theorem sched (hSd : Sound X.P w0 rec) (hP : FnsOk X.P fns) (hQ : PrimOk X w0) (R : RoOk X w0) (hm : F.mode = .run) (hk : F.kind = fr.kind) (hr : fr.round = none → F.roundOf = none) (D : DrawFacts X ops.toList) (L : Lay X fns rec fr u base ops.toList es hp ev al) (hn : fr.nt ≤ 65536) (hbs : Hs.next ≤ base)
    (QF : ∀ (S : Nat → Prop) i o p ι w, Closed ops.toList S → ¬ S i → (∀ j, beforeOk (masks ops.toList []) j i = true → S j) → ops[i]? = some o → Phi X w0 ops.toList es hp al base ws.heap.size S p ι w → ∀ e, es[i]? = some e → wantedA ops.toList (ev i) o = true → quietOp X o.op = true → quietVal X o (ev i) (hp p) = some e.v) :
    ∀ (fuel t : Nat) (listed : Array Bool), listed.size = ops.size → unl listed ≤ fuel → Closed ops.toList (SL listed) → DSt X w0 ops es hp al ev base ι0 Hs ws fr u cs m F ds' k (SL listed) (Region.linearise.go .any ops fuel t listed []) →
      ∃ S, (∀ a, a < ops.size → S a) ∧ DSt X w0 ops es hp al ev base ι0 Hs ws fr u cs m F ds' k S [] := by
  intro fuel
  induction fuel with
  | zero =>
    intro t listed hsz hun hcl hst
    refine ⟨SL listed, fun a ha => ?_, by simpa [Region.linearise.go] using hst⟩
    have h0 : listed.toList.countP (fun b => !b) = 0 := by simp only [unl] at hun; omega
    rw [List.countP_eq_zero] at h0
    have hal : a < listed.size := by omega
    have := h0 (listed.toList[a]'(by simpa using hal)) (List.getElem_mem _)
    simp only [SL, Array.getD_eq_getD_getElem?, Array.getElem?_eq_getElem hal, Option.getD_some]
    simpa using this
  | succ fuel ih =>
    intro t listed hsz hun hcl hst
    rw [Region.linearise.go] at hst
    generalize hrs : ((List.range ops.size).filter fun i => !listed.getD i true && ((ops[i]?).map (·.after.all fun e => !Region.binds .any e || listed.getD e.on false)).getD false) = rs at hst
    have hmem : ∀ i, i ∈ rs ↔ i < ops.size ∧ listed.getD i true = false ∧ ((ops[i]?).map (·.after.all fun e => !Region.binds .any e || listed.getD e.on false)).getD false = true := fun i => by
      rw [← hrs]; simp [List.mem_filter]
    split at hst
    · rename_i i hi
      obtain ⟨h1, h2, h3⟩ := (hmem i).1 (List.mem_of_getElem? hi)
      obtain ⟨o, ho⟩ : ∃ o, ops[i]? = some o := ⟨_, Array.getElem?_eq_getElem h1⟩
      have hni : ¬ SL listed i := by
        have : i < listed.size := by omega
        simp only [Array.getD_eq_getD_getElem?, Array.getElem?_eq_getElem this, Option.getD_some] at h2
        simp only [SL, Array.getD_eq_getD_getElem?, Array.getElem?_eq_getElem this, Option.getD_some, h2]; simp
      rw [ho] at h3
      simp only [Option.map_some, Option.getD_some] at h3
      have hoL : ops.toList[i]? = some o := by simpa using ho
      have hah := ahead_in hcl hoL (D.after i o hoL) (fun e he hb => by
        have := Array.all_eq_true'.1 h3 e (by simpa using he)
        simp only [hb, Bool.not_true, Bool.false_or] at this
        exact this)
      have hS := SL_set (listed := listed) (i := i) (by omega)
      rw [linearise_go_acc] at hst
      have hst2 : DSt X w0 ops es hp al ev base ι0 Hs ws fr u cs m F ds' k (SL listed) (i :: Region.linearise.go .any ops fuel (t / rs.length) (listed.setIfInBounds i true) []) := by simpa using hst
      have hnew := drawn_step hSd hP hQ R hm hk hr D L hn hbs hst2 ho hni hcl hah hS (fun p ι w hPhi => QF _ i o p ι w hcl hni hah ho hPhi)
      refine ih _ _ (by simpa using hsz) ?_ ?_ hnew
      · have := unl_set (listed := listed) (i := i) (by omega) hni; omega
      · intro a ha j hj
        rcases (hS a).1 ha with h4 | rfl
        · exact (hS j).2 (.inl (hcl a h4 j hj))
        · exact (hS j).2 (.inl (hah j hj))
    · rename_i hnone
      have hempty : rs = [] := by
        rcases rs with _ | ⟨x, l⟩
        · rfl
        · exfalso
          have : t % (x :: l).length < (x :: l).length := Nat.mod_lt _ (by simp)
          rw [List.getElem?_eq_getElem this] at hnone
          cases hnone
      refine ⟨SL listed, ?_, by simpa using hst⟩
      have : ∀ b a, a ≤ b → a < ops.size → SL listed a := by
        intro b
        induction b with
        | zero => intro a h1 h2; exact go1 hsz hmem hempty D a h2 (fun j hj _ => by omega)
        | succ b ihb => intro a h1 h2; exact go1 hsz hmem hempty D a h2 (fun j hj hj2 => ihb j (by omega) hj2)
      exact fun a ha => this a a (Nat.le_refl _) ha
where
  go1 {listed : Array Bool} {rs : List Nat} (hsz : listed.size = ops.size) (hmem : ∀ i, i ∈ rs ↔ i < ops.size ∧ listed.getD i true = false ∧ ((ops[i]?).map (·.after.all fun e => !Region.binds .any e || listed.getD e.on false)).getD false = true) (hempty : rs = [])
      (D : DrawFacts X ops.toList) (a : Nat) (ha : a < ops.size) (hb : ∀ j, j < a → j < ops.size → SL listed j) : SL listed a := by
    cases hc : listed.getD a false with
    | true => exact hc
    | false =>
      exfalso
      have hal : a < listed.size := by omega
      have h2 : listed.getD a true = false := by
        simp only [Array.getD_eq_getD_getElem?, Array.getElem?_eq_getElem hal, Option.getD_some] at hc ⊢
        exact hc
      obtain ⟨o, ho⟩ : ∃ o, ops[a]? = some o := ⟨_, Array.getElem?_eq_getElem ha⟩
      have hoL : ops.toList[a]? = some o := by simpa using ho
      have : a ∈ rs := (hmem a).2 ⟨ha, h2, by
        rw [ho]
        simp only [Option.map_some, Option.getD_some]
        refine Array.all_eq_true'.2 fun e he => ?_
        cases hbd : Region.binds .any e with
        | false => simp
        | true =>
          have := D.after a o hoL e (by simpa using he) hbd
          have h5 := hb e.on this (by omega)
          simp only [SL] at h5
          simp [h5]⟩
      rw [hempty] at this
      cases this
end
end Go.Am
set_option linter.unusedVariables false
namespace Go.Am

theorem ec_cons {X : Cx} {o : Oper} {os : List Oper} {e : Te} {es : List Te} : ∀ d, ec X (o :: os) (e :: es) (d + 1) = (if (e.w && effOp X o.op) = true then 1 else 0) + ec X os es d
  | 0 => by simp [ec, isEff]
  | d + 1 => by
    rw [ec, ec_cons d]
    have : isEff X (o :: os) (e :: es) (d + 1) = isEff X os es d := by simp [isEff]
    rw [this, ec, Nat.add_assoc]

theorem ec_nil {X : Cx} {es : List Te} : ∀ d, ec X [] es d = 0
  | 0 => rfl
  | d + 1 => by rw [ec, ec_nil d]; simp [isEff]

def efk (X : Cx) (k : Nat) (ops : List Oper) (es : List Te) : List Nat := (((ops.zip es).zipIdx k).filter fun ((o, e), _) => e.w && effOp X o.op).map (·.2)

theorem efk_ge {X : Cx} : ∀ (ops : List Oper) (es : List Te) (k j : Nat), j ∈ efk X k ops es → k ≤ j := by
  intro ops es k j h
  simp only [efk, List.mem_map, List.mem_filter] at h
  obtain ⟨⟨x, j'⟩, ⟨h1, _⟩, rfl⟩ := h
  exact List.le_snd_of_mem_zipIdx h1

theorem efk_count {X : Cx} : ∀ (ops : List Oper) (es : List Te) (k p : Nat), es.length = ops.length → ((efk X k ops es).filter fun j => decide (j < k + p)).length = ec X ops es p
  | [], es, k, p, h => by simp [efk, ec_nil]
  | o :: os, [], k, p, h => by simp at h
  | o :: os, e :: es, k, 0, h => by
    rw [List.filter_eq_nil_iff.2 (fun j hj => by have := efk_ge _ _ _ _ hj; simp; omega)]; rfl
  | o :: os, e :: es, k, p + 1, h => by
    have ih := efk_count (X := X) os es (k + 1) p (by simpa using h)
    rw [ec_cons, ← ih]
    simp only [efk, List.zip_cons_cons, List.zipIdx_cons, List.filter_cons]
    have e1 : ∀ j, (j < k + (p + 1)) = (j < k + 1 + p) := fun j => by rw [show k + (p + 1) = k + 1 + p by omega]
    by_cases c : (e.w && effOp X o.op) = true
    · simp only [c, if_true, List.map_cons, List.filter_cons, e1]
      rw [if_pos (by simp; omega), List.length_cons, Nat.add_comm]
    · simp only [c, if_false, e1]; simp

theorem effs_mem {X : Cx} {ops : List Oper} {es : List Te} (j : Nat) : j ∈ effs X ops es ↔ isEff X ops es j = true := by
  simp only [effs, List.mem_map, List.mem_filter]
  constructor
  · rintro ⟨⟨⟨o, e⟩, j'⟩, ⟨h1, h2⟩, rfl⟩
    rw [List.mem_zipIdx_iff_getElem?] at h1
    rw [List.getElem?_zip_eq_some] at h1
    simp only at h1 h2
    simp [isEff, h1.1, h1.2, h2]
  · intro h
    unfold isEff at h
    split at h
    · rename_i o e h1 h2
      exact ⟨((o, e), j), ⟨by rw [List.mem_zipIdx_iff_getElem?, List.getElem?_zip_eq_some]; exact ⟨h1, h2⟩, h⟩, rfl⟩
    · cases h

theorem filter_le {q q' : Nat → Bool} : ∀ (l : List Nat), (∀ j ∈ l, q j = true → q' j = true) → (l.filter q).length ≤ (l.filter q').length
  | [], _ => Nat.le_refl _
  | a :: l, h => by
    have ih := filter_le l fun j hj => h j (by simp [hj])
    have ha := h a (by simp)
    simp only [List.filter_cons]
    cases hq : q a with
    | true => rw [ha hq]; simp; exact ih
    | false => cases q' a <;> simp <;> omega

section
variable {X : Cx} {fns : Nat → Option Func} {rec : Rec} {fr : Fr} {u : FrameMode} {w0 : World} {ops : List Oper} {es : List Te} {hp : Nat → Hp} {ev : Nat → Env} {al : Nat → Option Ob} {base : Nat} {Gs : List Hp}

theorem float_ok (L : Lay X fns rec fr u base ops es hp ev al) (hG : ∀ d, isEff X ops es d = true → Gs[ec X ops es d]? = some (hp (d + 1))) (hf : floatOk X ops es (hp 0 :: Gs) (sameV 20) = true) {S : Nat → Prop} {i p s0 : Nat} {o : Oper} {ι : Iota} {w : World} (D : DrawFacts X ops) (hcl : Closed ops S) (hni : ¬ S i)
    (hah : ∀ j, beforeOk (masks ops []) j i = true → S j) (ho : ops[i]? = some o) (hPhi : Phi X w0 ops es hp al base s0 S p ι w) {e : Te} (he : es[i]? = some e) (hw : wantedA ops (ev i) o = true) (hq : quietOp X o.op = true) : quietVal X o (ev i) (hp p) = some e.v := by
  obtain ⟨hee, _, hst⟩ := L.st i o e ho he
  have hew : e.w = true := by
    cases hst with
    | skip h1 => rw [hw] at h1; cases h1
    | quiet _ h => exact h
    | alloc _ h => exact h
    | eff _ h => exact h
  have h1 := List.all_eq_true.1 hf ((o, e), i) (by rw [List.mem_zipIdx_iff_getElem?, List.getElem?_zip_eq_some]; exact ⟨ho, he⟩)
  simp only [hew, hq, Bool.not_true, Bool.false_or] at h1
  have hSp : ∀ j, isEff X ops es j = true → j < p → S j := fun j hj hjp => by
    rcases hPhi.last with rfl | ⟨h2, h3, h4⟩
    · omega
    · by_cases c : j = p - 1
      · subst c; exact h3
      · unfold isEff at hj h4
        split at hj
        · rename_i oj ej g1 g2
          split at h4
          · rename_i op ep g3 g4
            simp only [Bool.and_eq_true, effOp, Bool.not_eq_true'] at hj
            exact hcl _ h3 j (D.eff j oj (p - 1) op g1 hj.2.1 g3 (by simp only [Bool.and_eq_true] at h4; exact h4.2) (by omega))
          · cases h4
        · cases hj
  have hcount : ((effs X ops es).filter fun j => decide (j < p)).length = ec X ops es p := by
    have := efk_count (X := X) ops es 0 p L.len
    simpa [efk, effs] using this
  have hlo : ((effs X ops es).filter fun j => beforeOk (masks ops []) j i).length ≤ ec X ops es p := by
    rw [← hcount]
    exact filter_le _ fun j hj hb => by
      simp only [decide_eq_true_eq]
      exact hPhi.effs j (hah j hb) ((effs_mem j).1 hj)
  have hhi : ec X ops es p ≤ ((effs X ops es).filter fun j => !beforeOk (masks ops []) i j).length := by
    rw [← hcount]
    exact filter_le _ fun j hj hb => by
      simp only [decide_eq_true_eq] at hb
      have hs := hSp j ((effs_mem j).1 hj) hb
      cases hc : beforeOk (masks ops []) i j with
      | false => rfl
      | true => exact absurd (hcl j hs i hc) hni
  have hget : (hp 0 :: Gs)[ec X ops es p]? = some (hp p) := by
    rcases hPhi.last with rfl | ⟨h2, h3, h4⟩
    · rfl
    · have := hG (p - 1) h4
      have e1 : ec X ops es p = ec X ops es (p - 1) + 1 := by
        have : p = (p - 1) + 1 := by omega
        rw [this, ec, h4, if_pos rfl]
        simp
      rw [e1, List.getElem?_cons_succ, this, show p - 1 + 1 = p by omega]
  have hlt : ec X ops es p < (hp 0 :: Gs).length := by
    rcases Nat.lt_or_ge (ec X ops es p) (hp 0 :: Gs).length with h' | h'
    · exact h'
    · rw [List.getElem?_eq_none h'] at hget; cases hget
  have h2 := List.all_eq_true.1 h1 (ec X ops es p) (List.mem_range.2 hlt)
  have g1 : Nat.blt (ec X ops es p) ((effs X ops es).filter fun j => beforeOk (masks ops []) j i).length = false := by rw [blt_dec]; simp; exact hlo
  have g2 : Nat.blt ((effs X ops es).filter fun j => !beforeOk (masks ops []) i j).length (ec X ops es p) = false := by rw [blt_dec]; simp; exact hhi
  rw [g1, g2, hget, hee] at h2
  simp only [Bool.false_or] at h2
  cases hv : quietVal X o (ev i) (hp p) with
  | none => rw [hv] at h2; cases h2
  | some v => rw [hv] at h2; rw [sameV_eq _ _ _ h2]
end
end Go.Am
