/- Regions that draw: the state behind a set of operations. -/
import Derived.Test.YtmbiniafgdbbfaaGreatAmN
set_option linter.unusedSimpArgs false
set_option linter.unusedVariables false
set_option linter.unusedVariables false
namespace Go.Am

structure DrawFacts (X : Cx) (ops : List Oper) : Prop where
  after : ∀ i o, ops[i]? = some o → ∀ e ∈ o.after.toList, Region.binds .any e = true → e.on < i
  looks : ∀ i o t j p, ops[i]? = some o → t ∈ looksA ops o → ops[j]? = some p → p.dst = some t → i = j ∨ (j < i ∧ beforeOk (masks ops []) j i = true) ∨ (i ≤ j ∧ beforeOk (masks ops []) i j = true)
  eff : ∀ i o j p, ops[i]? = some o → quietOp X o.op = false → ops[j]? = some p → effOp X p.op = true → i < j → beforeOk (masks ops []) i j = true
  norec : ∀ (i : Nat) (o : Oper) (c : Call), ops[i]? = some o → o.op = .call c → c.callee ≠ .builtin .recover
  nodef : ∀ (i : Nat) (o : Oper) (c : Call), ops[i]? = some o → o.op ≠ .defer c

theorem zip_mem {α : Type} {l : List α} {i : Nat} {a : α} (h : l[i]? = some a) : (a, i) ∈ l.zipIdx := by
  rw [List.mem_zipIdx_iff_getElem?]; exact h

theorem drawOk_facts {X : Cx} {ops : List Oper} (h : drawOk X ops = true) : DrawFacts X ops := by
  simp only [drawOk, Bool.and_eq_true] at h
  obtain ⟨⟨⟨⟨h1, h2⟩, h3⟩, h4⟩, h5⟩ := h
  refine ⟨fun i o ho e he hb => ?_, fun i o t j p ho ht hp hd => ?_, fun i o j p ho hq hp hf hij => ?_, fun i o c ho hc hr => ?_, fun i o c ho hc => ?_⟩
  · have := List.all_eq_true.1 (List.all_eq_true.1 h1 (o, i) (zip_mem ho)) e he
    simp only [hb, Bool.not_true, Bool.false_or, blt_dec, decide_eq_true_eq] at this
    exact this
  · have := List.all_eq_true.1 (List.all_eq_true.1 (List.all_eq_true.1 h2 (o, i) (zip_mem ho)) t ht) (p, j) (zip_mem hp)
    simp only [hd, beq_self_eq_true, Bool.not_true, Bool.false_or, Bool.or_eq_true, beq_dec, decide_eq_true_eq, blt_dec] at this
    rcases this with h | h
    · exact .inl h
    · by_cases c : j < i
      · simp only [c, decide_true, cond_true] at h; exact .inr (.inl ⟨c, h⟩)
      · simp only [c, decide_false, cond_false] at h; exact .inr (.inr ⟨by omega, h⟩)
  · have := List.all_eq_true.1 h3 (o, i) (zip_mem ho)
    simp only [hq, Bool.false_or] at this
    have := List.all_eq_true.1 this (p, j) (zip_mem hp)
    simp only [hf, Bool.not_true, Bool.false_or, Bool.or_eq_true, ble_dec, decide_eq_true_eq] at this
    rcases this with h | h
    · omega
    · exact h
  · have := List.all_eq_true.1 h4 o (List.mem_of_getElem? ho)
    obtain ⟨callee, args, ats⟩ := c
    simp only at hr
    subst hr
    rw [hc] at this
    simp at this
  · have := List.all_eq_true.1 h4 o (List.mem_of_getElem? ho)
    rw [hc] at this
    simp at this

/-- The text's run of a region. -/
structure Lay (X : Cx) (fns : Nat → Option Func) (rec : Rec) (fr : Fr) (u : FrameMode) (base : Nat) (ops : List Oper) (es : List Te) (hp : Nat → Hp) (ev : Nat → Env) (al : Nat → Option Ob) : Prop where
  len : es.length = ops.length
  st : ∀ d o e, ops[d]? = some o → es[d]? = some e → e.env = ev d ∧ ev (d + 1) = (ev d).put fr.nt o.dst e.v ∧ StepA X fns rec fr u base ops d o (ev d) (hp d) e (hp (d + 1)) (al d)

structure Phi (X : Cx) (w0 : World) (ops : List Oper) (es : List Te) (hp : Nat → Hp) (al : Nat → Option Ob) (base s0 : Nat) (S : Nat → Prop) (p : Nat) (ι : Iota) (w : World) : Prop where
  inv : Inv w0 ι (hp p) w
  ple : p ≤ ops.length
  last : p = 0 ∨ (0 < p ∧ S (p - 1) ∧ isEff X ops es (p - 1) = true)
  effs : ∀ a, S a → isEff X ops es a = true → a < p
  free : ∀ a, a < ops.length → (S a → al a = none) → ι (base + a) = none
  unset : ∀ a, p ≤ a → a < ops.length → (hp p).get (base + a) = none
  pend : ∀ a ob, a < ops.length → S a → p ≤ a → al a = some ob → ∃ B x, ι (base + a) = some B ∧ w.heap[B.block]? = some x ∧ ObR ι B ob x ∧ s0 ≤ B.block ∧ (∀ m o C, (hp p).get m = some o → ι m = some C → C.block ≠ B.block) ∧
    (∀ a' ob' C, a' < ops.length → S a' → p ≤ a' → a' ≠ a → al a' = some ob' → ι (base + a') = some C → C.block ≠ B.block)
  next : base + ops.length ≤ (hp p).next
  size : s0 ≤ w.heap.size

section
variable {X : Cx} {fns : Nat → Option Func} {rec : Rec} {fr : Fr} {u : FrameMode} {w0 : World} {ops : List Oper} {es : List Te} {hp : Nat → Hp} {ev : Nat → Env} {al : Nat → Option Ob} {base s0 : Nat} {S : Nat → Prop} {p : Nat} {ι : Iota} {w : World}

/-- On to a later place of the text, where no effect lies between and every allocation has been done. -/
theorem Phi.adv (L : Lay X fns rec fr u base ops es hp ev al) (h : Phi X w0 ops es hp al base s0 S p ι w) : ∀ j, p ≤ j → j ≤ ops.length → (∀ a, p ≤ a → a < j → isEff X ops es a = false) → (∀ a, p ≤ a → a < j → al a ≠ none → S a) →
    Inv w0 ι (hp j) w ∧ (hp j).next = (hp p).next ∧ ∀ m o, (hp j).get m = some o → (hp p).get m = some o ∨ ∃ a ob, p ≤ a ∧ a < j ∧ S a ∧ al a = some ob ∧ m = base + a := by
  intro j
  induction j with
  | zero =>
    intro h1 _ _ _
    have : p = 0 := by omega
    subst this
    exact ⟨h.inv, rfl, fun m o hm => .inl hm⟩
  | succ j ih =>
    intro h1 h2 h3 h4
    by_cases e : p = j + 1
    · subst e; exact ⟨h.inv, rfl, fun m o hm => .inl hm⟩
    · obtain ⟨hI, hN, hG⟩ := ih (by omega) (by omega) (fun a x y => h3 a x (by omega)) (fun a x y => h4 a x (by omega))
      have hj : j < ops.length := by omega
      have ho := List.getElem?_eq_getElem hj
      have he := List.getElem?_eq_getElem (show j < es.length by rw [L.len]; exact hj)
      have hG' : ∀ m o, (hp j).get m = some o → (hp p).get m = some o ∨ ∃ a ob, p ≤ a ∧ a < j + 1 ∧ S a ∧ al a = some ob ∧ m = base + a := fun m o hm => (hG m o hm).imp id fun ⟨a, ob, q1, q2, q3⟩ => ⟨a, ob, q1, by omega, q3⟩
      cases (L.st j _ _ ho he).2.2 with
      | skip hw hew hv hh ha => rw [hh]; exact ⟨hI, hN, hG'⟩
      | quiet hw hew hok hq hv hh ha => rw [hh]; exact ⟨hI, hN, hG'⟩
      | alloc hw hew hok hq hal ob mk hm hv hh ha =>
        have hS : S j := h4 j (by omega) (by omega) (by rw [ha]; simp)
        obtain ⟨B, x, hB, hx, hob, hs0, hD1, hD2⟩ := h.pend j ob hj hS (by omega) ha
        have hlt : base + j < FB := I_lt hI hB
        have hget : ∀ m, ((hp j).set (base + j) ob).get m = if m = base + j then some ob else (hp j).get m := Hp.get_set hlt ob
        rw [hh]
        refine ⟨hI.add hB hx hob fun m q C hm hc hne => ?_, hN, fun m o hm => ?_⟩
        · rcases hG m q hm with h5 | ⟨a, ob', q1, q2, q3, q4, rfl⟩
          · exact hD1 m q C h5 hc
          · exact hD2 a ob' C (by omega) q3 q1 (by omega) q4 hc
        · rw [hget] at hm
          by_cases e : m = base + j
          · exact .inr ⟨j, ob, by omega, by omega, hS, ha, e⟩
          · rw [if_neg e] at hm; exact hG' m o hm
      | eff hw hew hq hal u' hr ha =>
        exfalso
        have h5 := h3 j (by omega) (by omega)
        simp [isEff, ho, he, hew, effOp, hq, hal] at h5
where
  I_lt {ι : Iota} {H : Hp} (I : Inv w0 ι H w) {n : Nat} {B : Blk} (h : ι n = some B) : n < FB := I.lt h
end
end Go.Am
