/- The abstract machine: the heap's relation to the world, and how it is kept. -/
import Derived.Test.YtmbiniafgdbbfaaGreatAmR
set_option linter.unusedSimpArgs false
set_option linter.unusedVariables false
namespace Go.Am

namespace Tr
variable {α : Type}
theorem div_lt {d i : Nat} (h : i < 2 ^ (d + 1)) : i / 2 < 2 ^ d := by
  have : 2 ^ (d + 1) = 2 ^ d * 2 := Nat.pow_succ ..
  omega
theorem beq_even (i : Nat) : Nat.beq (Nat.mod i 2) 0 = decide (i % 2 = 0) := by
  show Nat.beq (i % 2) 0 = _
  by_cases h : i % 2 = 0
  · simp [h]
  · rw [decide_eq_false h]; cases hb : Nat.beq (i % 2) 0 with
    | false => rfl
    | true => exact absurd (Nat.eq_of_beq_eq_true hb) h
theorem get_e (j : Nat) : (Tr.e : Tr α).get j = none := by cases j <;> rfl
theorem get_zero (l : Tr α) (v : Option α) (r : Tr α) : (Tr.n l v r).get 0 = v := rfl
theorem get_pos (l : Tr α) (v : Option α) (r : Tr α) (j : Nat) (h : j ≠ 0) : (Tr.n l v r).get j = if j % 2 = 0 then r.get (j / 2) else l.get (j / 2) := by
  cases j with
  | zero => exact absurd rfl h
  | succ j =>
    simp only [get, beq_even]
    by_cases e : (j + 1) % 2 = 0 <;> simp [e] <;> rfl
theorem set_pos (d : Nat) (t : Tr α) (i : Nat) (x : Option α) (h : i ≠ 0) : t.set (d + 1) i x =
    match t with
    | .e => if i % 2 = 0 then .n .e none (set d .e (i / 2) x) else .n (set d .e (i / 2) x) none .e
    | .n l v r => if i % 2 = 0 then .n l v (set d r (i / 2) x) else .n (set d l (i / 2) x) v r := by
  cases i with
  | zero => exact absurd rfl h
  | succ i =>
    cases t <;> simp only [set, beq_even] <;> by_cases e : (i + 1) % 2 = 0 <;> simp [e] <;> rfl
theorem get_set : ∀ (d : Nat) (t : Tr α) (i j : Nat) (x : Option α), i < 2 ^ d → (t.set d i x).get j = if j = i then x else t.get j := by
  intro d
  induction d with
  | zero =>
    intro t i j x h
    have hi : i = 0 := by simpa using h
    subst hi
    cases t <;> simp only [set] <;> by_cases e : j = 0
    · subst e; rfl
    · rw [get_pos _ _ _ _ e, if_neg e]; simp [get_e]
    · subst e; rfl
    · rw [get_pos _ _ _ _ e, if_neg e, get_pos _ _ _ _ e]
  | succ d ih =>
    intro t i j x h
    by_cases hi : i = 0
    · subst hi
      cases t <;> simp only [set] <;> by_cases e : j = 0
      · subst e; rfl
      · rw [get_pos _ _ _ _ e, if_neg e]; simp [get_e]
      · subst e; rfl
      · rw [get_pos _ _ _ _ e, if_neg e, get_pos _ _ _ _ e]
    · have hd := div_lt h
      rw [set_pos _ _ _ _ hi]
      by_cases e : j = 0
      · subst e
        rw [if_neg (show ¬ (0 = i) from fun e => hi e.symm)]
        cases t <;> by_cases p : i % 2 = 0 <;> simp [p, get_zero, get_e]
      · cases t <;> by_cases p : i % 2 = 0 <;> simp only [p, if_true, if_false] <;> rw [get_pos _ _ _ _ e] <;> by_cases q : j % 2 = 0 <;> simp only [q, if_true, if_false] <;>
          (try rw [ih _ _ _ _ hd]) <;> (try rw [get_pos _ _ _ _ e]) <;> (try simp only [get_e, q, if_true, if_false]) <;>
          first
            | (by_cases c : j = i
               · rw [if_pos (by omega), if_pos c]
               · rw [if_neg (by omega), if_neg c])
            | (rw [if_neg (by omega)])
end Tr

namespace Hp
theorem get_set {H : Hp} {n : Nat} (hn : n < FB) (o : Ob) (m : Nat) : (H.set n o).get m = if m = n then some o else H.get m := Tr.get_set 40 _ _ _ _ hn
theorem get_kill {H : Hp} {n : Nat} (hn : n < FB) (m : Nat) : (H.kill n).get m = if m = n then none else H.get m := Tr.get_set 40 _ _ _ _ hn
theorem alloc_eq {H H' : Hp} {o : Ob} {n : Nat} (h : H.alloc o = some (n, H')) : n = H.next ∧ n < FB ∧ H'.next = n + 1 ∧ ∀ m, H'.get m = if m = n then some o else H.get m := by
  unfold alloc at h
  cases hb : Nat.blt H.next FB with
  | false => simp [hb] at h
  | true =>
    simp only [hb, cond_true, Option.some.injEq, Prod.mk.injEq] at h
    obtain ⟨rfl, rfl⟩ := h
    have hl : H.next < FB := by simpa [Nat.blt_eq] using hb
    exact ⟨rfl, hl, rfl, fun m => Tr.get_set 40 _ _ _ _ hl⟩
end Hp

inductive DR (ι : Iota) : Deferred → Deferred → Prop
  | fn (g : FuncId) {c c' a a' : Array Value} (hc : VRs ι c.toList c'.toList) (ha : VRs ι a.toList a'.toList) : DR ι { target := .fn (.func g) c, args := a } { target := .fn (.func g) c', args := a' }
  | collected {d : Nat} {B : Blk} (h : ι d = some B) : DR ι { target := .collected d, args := #[] } { target := .collected B.block, args := #[] }

inductive DRs (ι : Iota) : List Deferred → List Deferred → Prop
  | nil : DRs ι [] []
  | cons {d d' : Deferred} {l l' : List Deferred} (h : DR ι d d') (t : DRs ι l l') : DRs ι (d :: l) (d' :: l')

inductive ERs (ι : Iota) : List MapEntry → List MapEntry → Prop
  | nil : ERs ι [] []
  | cons {e e' : MapEntry} {l l' : List MapEntry} (hk : VR ι e.key e'.key) (hv : VR ι e.val e'.val) (hb : e.born = e'.born) (t : ERs ι l l') : ERs ι (e :: l) (e' :: l')

structure EnvR (ι : Iota) (env : Env) (nt : Nat) (tmps : Array Value) : Prop where
  small : nt ≤ 65536
  size : tmps.size = nt
  val : ∀ t, VR ι (env.val t) (tmps.getD t undef)

structure LoopR (ι : Iota) (l : ALoop) (l' : Loop) : Prop where
  state : l'.state = l.state
  pending : l'.pending = l.pending
  fn : l'.fn = l.fn
  env : EnvR ι l.env l.nt l'.tmps
  params : l'.params.toList = l.params
  assign : l'.assign = l.assign
  body : l'.body = l.body
  defers : ∃ B, ι l.defers = some B ∧ l'.defers = B.block

def ObR (ι : Iota) (B : Blk) : Ob → Obj → Prop
  | .row cs, .cells C _ fz => B.base + B.cells ≤ C.size ∧ cs.length ≤ B.cells ∧ (∀ (i : Nat) (v : Value), cs[i]? = some v → ∃ v', C[B.base + i]? = some v' ∧ VR ι v v') ∧
      ∀ i, i < C.size → ¬ (fz.1 ≤ i ∧ i < fz.2)
  | .map es clock, .map es' clock' => clock = clock' ∧ ERs ι es es'.toList
  | .iter m since seen st, .mapIter m' since' seen' st' => B.base = 0 ∧ since = since' ∧ st = st' ∧ seen'.toList = seen ∧
      (match m with | none => m' = none | some n => ∃ C, ι n = some C ∧ m' = some C.block)
  | .sit s pos, .stringIter s' pos' => B.base = 0 ∧ s = s' ∧ pos = pos'
  | .loop l, .loop l' => LoopR ι l l'
  | .deferred none, .deferred none => True
  | .deferred (some ds), .deferred (some ds') => DRs ι ds ds'
  | _, _ => False

theorem DR.mono {ι ι' : Iota} (e : Ext ι ι') {d d' : Deferred} (h : DR ι d d') : DR ι' d d' := by
  cases h with
  | fn g hc ha => exact .fn g (hc.mono e) (ha.mono e)
  | collected h => exact .collected (e _ _ h)
theorem DRs.mono {ι ι' : Iota} (e : Ext ι ι') {l l' : List Deferred} (h : DRs ι l l') : DRs ι' l l' := by
  induction h with
  | nil => exact .nil
  | cons h _ ih => exact .cons (h.mono e) ih
theorem DRs.append {ι : Iota} {a a' b b' : List Deferred} (h : DRs ι a a') (k : DRs ι b b') : DRs ι (a ++ b) (a' ++ b') := by
  induction h with
  | nil => exact k
  | cons h _ ih => exact .cons h ih
theorem ERs.mono {ι ι' : Iota} (e : Ext ι ι') {l l' : List MapEntry} (h : ERs ι l l') : ERs ι' l l' := by
  induction h with
  | nil => exact .nil
  | cons hk hv hb _ ih => exact .cons (hk.mono e) (hv.mono e) hb ih
theorem ERs.length {ι : Iota} {l l' : List MapEntry} (h : ERs ι l l') : l.length = l'.length := by
  induction h with
  | nil => rfl
  | cons _ _ _ _ ih => simp [ih]
theorem ERs.get {ι : Iota} {l l' : List MapEntry} (h : ERs ι l l') : ∀ {i : Nat} {e : MapEntry}, l[i]? = some e → ∃ e', l'[i]? = some e' ∧ VR ι e.key e'.key ∧ VR ι e.val e'.val ∧ e.born = e'.born := by
  induction h with
  | nil => intro i e h; simp at h
  | cons hk hv hb _ ih =>
    intro i e h
    cases i with
    | zero => simp at h; subst h; exact ⟨_, by simp, hk, hv, hb⟩
    | succ i => simpa using ih (by simpa using h)
theorem ERs.append {ι : Iota} {a a' b b' : List MapEntry} (h : ERs ι a a') (k : ERs ι b b') : ERs ι (a ++ b) (a' ++ b') := by
  induction h with
  | nil => exact k
  | cons hk hv hb _ ih => exact .cons hk hv hb ih
theorem EnvR.mono {ι ι' : Iota} (e : Ext ι ι') {env : Env} {nt : Nat} {t : Array Value} (h : EnvR ι env nt t) : EnvR ι' env nt t := ⟨h.small, h.size, fun i => (h.val i).mono e⟩
theorem LoopR.mono {ι ι' : Iota} (e : Ext ι ι') {l : ALoop} {l' : Loop} (h : LoopR ι l l') : LoopR ι' l l' :=
  ⟨h.state, h.pending, h.fn, h.env.mono e, h.params, h.assign, h.body, let ⟨B, a, b⟩ := h.defers; ⟨B, e _ _ a, b⟩⟩
theorem ObR.mono {ι ι' : Iota} (e : Ext ι ι') {B : Blk} {o : Ob} {x : Obj} (h : ObR ι B o x) : ObR ι' B o x := by
  cases o <;> cases x <;> simp only [ObR] at h ⊢
  case row.cells => exact ⟨h.1, h.2.1, fun i v hi => let ⟨v', a, b⟩ := h.2.2.1 i v hi; ⟨v', a, b.mono e⟩, h.2.2.2⟩
  case map.map => exact ⟨h.1, h.2.mono e⟩
  case iter.mapIter m _ _ _ _ _ _ _ =>
    refine ⟨h.1, h.2.1, h.2.2.1, h.2.2.2.1, ?_⟩
    cases m with
    | none => exact h.2.2.2.2
    | some n => obtain ⟨C, a, b⟩ := h.2.2.2.2; exact ⟨C, e _ _ a, b⟩
  case sit.stringIter => exact h
  case loop.loop => exact h.mono e
  case deferred.deferred a b => cases a <;> cases b <;> simp only at h ⊢; exact h.mono e

structure Inv (w0 : World) (ι : Iota) (H : Hp) (w : World) : Prop where
  dom : ∀ n B, ι n = some B → n < H.next ∧ B.block < w.heap.size ∧ w0.heap.size ≤ B.block
  next : H.next ≤ FB
  live : ∀ n o, H.get n = some o → ∃ B x, ι n = some B ∧ w.heap[B.block]? = some x ∧ ObR ι B o x
  inj : ∀ n m o o' B C, H.get n = some o → H.get m = some o' → ι n = some B → ι m = some C → B.block = C.block → n = m
  old : ∀ b, b < w0.heap.size → w.heap[b]? = w0.heap[b]?
  size : w0.heap.size ≤ w.heap.size
  os : w.os = w0.os
  tape : w.tape = w0.tape
  output : w.output = w0.output

/-- From one state to a later one. -/
structure Tran (ι : Iota) (H : Hp) (w : World) (ι' : Iota) (H' : Hp) (w' : World) : Prop where
  ext : Ext ι ι'
  new : ∀ n B, ι' n = some B → ι n = some B ∨ H.next ≤ n
  next : H.next ≤ H'.next
  size : w.heap.size ≤ w'.heap.size
  frame : ∀ b, b < w.heap.size → (∀ n o B, H.get n = some o → ι n = some B → B.block ≠ b) → w'.heap[b]? = w.heap[b]?
  mono : ∀ n o B, H'.get n = some o → ι' n = some B → B.block < w.heap.size → ∃ m o2 C, H.get m = some o2 ∧ ι m = some C ∧ C.block = B.block

theorem Tran.refl (ι : Iota) (H : Hp) (w : World) : Tran ι H w ι H w :=
  ⟨Ext.refl _, fun _ _ h => .inl h, Nat.le_refl _, Nat.le_refl _, fun _ _ _ => rfl, fun n o B h k _ => ⟨n, o, B, h, k, rfl⟩⟩

theorem Tran.trans {a b c : Iota} {A B C : Hp} {x y z : World} (h : Tran a A x b B y) (k : Tran b B y c C z) : Tran a A x c C z where
  ext := h.ext.trans k.ext
  new n D e := by
    rcases k.new n D e with e | e
    · exact h.new n D e
    · exact .inr (Nat.le_trans h.next e)
  next := Nat.le_trans h.next k.next
  size := Nat.le_trans h.size k.size
  frame i hi hn := by
    rw [k.frame i (Nat.lt_of_lt_of_le hi h.size) fun n o D hg hd e => ?_, h.frame i hi hn]
    obtain ⟨m, o2, D2, h1, h2, h3⟩ := h.mono n o D hg hd (by omega)
    exact hn m o2 D2 h1 h2 (by omega)
  mono n o D hg hd hb := by
    obtain ⟨m, o2, D2, h1, h2, h3⟩ := k.mono n o D hg hd (Nat.lt_of_lt_of_le hb h.size)
    obtain ⟨m', o3, D3, g1, g2, g3⟩ := h.mono m o2 D2 h1 h2 (by omega)
    exact ⟨m', o3, D3, g1, g2, by omega⟩

theorem Inv.lt {w0 : World} {ι : Iota} {H : Hp} {w : World} (I : Inv w0 ι H w) {n : Nat} {B : Blk} (h : ι n = some B) : n < FB := Nat.lt_of_lt_of_le (I.dom n B h).1 I.next

/-- A draw changes nothing. -/
theorem Inv.drew {w0 : World} {ι : Iota} {H : Hp} {w : World} (I : Inv w0 ι H w) (k : Nat) : Inv w0 ι H { w with drawn := k } :=
  ⟨I.dom, I.next, I.live, I.inj, I.old, I.size, I.os, I.tape, I.output⟩
theorem Tran.drew {ι : Iota} {H : Hp} {w : World} (k : Nat) : Tran ι H w ι H { w with drawn := k } :=
  ⟨Ext.refl _, fun _ _ h => .inl h, Nat.le_refl _, Nat.le_refl _, fun _ _ _ => rfl, fun n o B h k _ => ⟨n, o, B, h, k, rfl⟩⟩

/-- The object behind a handle is replaced, in its block. -/
theorem Inv.setObj {w0 : World} {ι : Iota} {H : Hp} {w : World} (I : Inv w0 ι H w) {n : Nat} {o : Ob} {B : Blk} (hg : H.get n = some o) (hn : ι n = some B)
    (o' : Ob) (x' : Obj) (hr : ObR ι B o' x') :
    Inv w0 ι (H.set n o') { w with heap := w.heap.setIfInBounds B.block x' } ∧ Tran ι H w ι (H.set n o') { w with heap := w.heap.setIfInBounds B.block x' } := by
  have hlt := I.lt hn
  have hd := I.dom n B hn
  have hget : ∀ m, (H.set n o').get m = if m = n then some o' else H.get m := Hp.get_set hlt o'
  have hoth : ∀ b, b ≠ B.block → (w.heap.setIfInBounds B.block x')[b]? = w.heap[b]? := fun b hb => by
    simp [Ne.symm hb]
  have hnew : ∀ m p C, (H.set n o').get m = some p → ι m = some C → m ≠ n → C.block ≠ B.block := fun m p C hm hc hne e => by
    rw [hget, if_neg hne] at hm
    exact hne (I.inj m n p o C B hm hg hc hn e)
  refine ⟨⟨fun m C hc => ?_, I.next, fun m p hm => ?_, fun m k p q C D hm hk hc hdd e => ?_, fun b hb => ?_, ?_, I.os, I.tape, I.output⟩, ⟨Ext.refl _, fun _ _ h => .inl h, Nat.le_refl _, ?_, fun b hb hne => ?_, fun m p C hm hc hb => ?_⟩⟩
  · have := I.dom m C hc; simp only [Array.size_setIfInBounds]; exact this
  · by_cases e : m = n
    · subst e
      rw [hget, if_pos rfl] at hm
      cases hm
      exact ⟨B, x', hn, by simp [hd.2.1], hr⟩
    · have hm' := hm
      rw [hget, if_neg e] at hm
      obtain ⟨C, x, hc, hx, hob⟩ := I.live m p hm
      exact ⟨C, x, hc, (hoth _ (hnew m p C hm' hc e)).trans hx, hob⟩
  · rw [hget] at hm hk
    by_cases e1 : m = n <;> by_cases e2 : k = n
    · rw [e1, e2]
    · rw [if_neg e2] at hk; subst e1; exact I.inj m k o q C D hg hk hc hdd e
    · rw [if_neg e1] at hm; subst e2; exact I.inj m k p o C D hm hg hc hdd e
    · rw [if_neg e1] at hm; rw [if_neg e2] at hk; exact I.inj m k p q C D hm hk hc hdd e
  · rw [hoth b (by omega)]; exact I.old b hb
  · simpa using I.size
  · simp
  · exact hoth b fun e => hne n o B hg hn e.symm
  · rw [hget] at hm
    by_cases e : m = n
    · subst e; exact ⟨m, o, B, hg, hn, by rw [hn] at hc; cases hc; rfl⟩
    · rw [if_neg e] at hm; exact ⟨m, p, C, hm, hc, rfl⟩

/-- A new object in a new block. -/
theorem Inv.alloc {w0 : World} {ι : Iota} {H H' : Hp} {w : World} (I : Inv w0 ι H w) {o : Ob} {n : Nat} (ha : H.alloc o = some (n, H')) (B : Blk) (hB : B.block = w.heap.size) (x : Obj)
    (hr : ∀ ι', Ext ι ι' → ι' n = some B → ObR ι' B o x) :
    ∃ ι', ι' n = some B ∧ Inv w0 ι' H' { w with heap := w.heap.push x } ∧ Tran ι H w ι' H' { w with heap := w.heap.push x } := by
  obtain ⟨rfl, hlt, hnext, hget⟩ := Hp.alloc_eq ha
  have hnone : ι H.next = none := by
    cases h : ι H.next with
    | none => rfl
    | some C => exact absurd (I.dom _ C h).1 (Nat.lt_irrefl _)
  have hgn : H.get H.next = none := by
    cases h : H.get H.next with
    | none => rfl
    | some p => obtain ⟨C, _, hc, _⟩ := I.live _ p h; rw [hnone] at hc; cases hc
  let ι' : Iota := fun m => if m = H.next then some B else ι m
  have hi : ι' H.next = some B := if_pos rfl
  have hne : ∀ m, m ≠ H.next → ι' m = ι m := fun m h => if_neg h
  have hext : Ext ι ι' := fun m C hc => by
    by_cases e : m = H.next
    · subst e; rw [hnone] at hc; cases hc
    · rw [hne m e]; exact hc
  have hoth : ∀ b, b < w.heap.size → (w.heap.push x)[b]? = w.heap[b]? := fun b hb => by simp [Array.getElem?_push, Nat.ne_of_lt hb]
  refine ⟨ι', hi, ⟨fun m C hc => ?_, ?_, fun m p hm => ?_, fun m k p q C D hm hk hc hdd e => ?_, fun b hb => ?_, ?_, I.os, I.tape, I.output⟩, ⟨hext, fun m C hc => ?_, by omega, ?_, fun b hb _ => hoth b hb, fun m p C hm hc hb => ?_⟩⟩
  · by_cases e : m = H.next
    · subst e; rw [hi] at hc; cases hc; simp only [Array.size_push]; have := I.size; omega
    · rw [hne m e] at hc; have := I.dom m C hc; simp only [Array.size_push]; omega
  · rw [hnext]; omega
  · rw [hget] at hm
    by_cases e : m = H.next
    · subst e
      rw [if_pos rfl] at hm; cases hm
      exact ⟨B, x, hi, by simp [hB], hr ι' hext hi⟩
    · rw [if_neg e] at hm
      obtain ⟨C, y, hc, hy, hob⟩ := I.live m p hm
      exact ⟨C, y, by rw [hne m e]; exact hc, (hoth _ (I.dom m C hc).2.1).trans hy, hob.mono hext⟩
  · rw [hget] at hm hk
    by_cases e1 : m = H.next <;> by_cases e2 : k = H.next
    · rw [e1, e2]
    · rw [if_neg e2] at hk; rw [hne k e2] at hdd; subst e1; rw [hi] at hc; cases hc
      have := (I.dom k D hdd).2.1; omega
    · rw [if_neg e1] at hm; rw [hne m e1] at hc; subst e2; rw [hi] at hdd; cases hdd
      have := (I.dom m C hc).2.1; omega
    · rw [if_neg e1] at hm; rw [if_neg e2] at hk; rw [hne m e1] at hc; rw [hne k e2] at hdd
      exact I.inj m k p q C D hm hk hc hdd e
  · rw [hoth b (Nat.lt_of_lt_of_le hb I.size)]; exact I.old b hb
  · simp only [Array.size_push]; have := I.size; omega
  · by_cases e : m = H.next
    · exact .inr (by omega)
    · rw [hne m e] at hc; exact .inl hc
  · simp
  · rw [hget] at hm
    by_cases e : m = H.next
    · subst e; rw [hi] at hc; cases hc; omega
    · rw [if_neg e] at hm; rw [hne m e] at hc; exact ⟨m, p, C, hm, hc, rfl⟩

/-- A row's handle is let go. -/
theorem Inv.kill {w0 : World} {ι : Iota} {H : Hp} {w : World} (I : Inv w0 ι H w) {n : Nat} (hn : n < FB) : Inv w0 ι (H.kill n) w ∧ Tran ι H w ι (H.kill n) w := by
  have hget : ∀ m p, (H.kill n).get m = some p → m ≠ n ∧ H.get m = some p := fun m p hm => by
    rw [Hp.get_kill hn] at hm
    by_cases e : m = n
    · rw [if_pos e] at hm; cases hm
    · rw [if_neg e] at hm; exact ⟨e, hm⟩
  exact ⟨⟨I.dom, I.next, fun m p hm => I.live m p (hget m p hm).2, fun m k p q C D hm hk => I.inj m k p q C D (hget m p hm).2 (hget k q hk).2, I.old, I.size, I.os, I.tape, I.output⟩,
    ⟨Ext.refl _, fun _ _ h => .inl h, Nat.le_refl _, Nat.le_refl _, fun _ _ _ => rfl, fun m p C hm hc _ => ⟨m, p, C, (hget m p hm).2, hc, rfl⟩⟩⟩

/-- A row is replaced by a new handle over the same block (which no other handle has). -/
theorem Inv.rehandle {w0 : World} {ι : Iota} {H H' : Hp} {w : World} (I : Inv w0 ι H w) {n m : Nat} {o o' : Ob} {B : Blk} (hg : H.get n = some o) (hn : ι n = some B)
    (ha : (H.kill n).alloc o' = some (m, H')) (B' : Blk) (hB : B'.block = B.block) (x : Obj)
    (hr : ∀ ι', Ext ι ι' → ι' m = some B' → ObR ι' B' o' x) :
    ∃ ι', ι' m = some B' ∧ Inv w0 ι' H' { w with heap := w.heap.setIfInBounds B.block x } ∧ Tran ι H w ι' H' { w with heap := w.heap.setIfInBounds B.block x } := by
  have hlt := I.lt hn
  have hd := I.dom n B hn
  obtain ⟨hm0, hmlt, hnext, hget⟩ := Hp.alloc_eq ha
  have hm : m = H.next := hm0
  have hnone : ι m = none := by
    cases h : ι m with
    | none => rfl
    | some C => have := (I.dom _ C h).1; omega
  have hnm : n ≠ m := by have := hd.1; omega
  have hgm : ∀ k p, H'.get k = some p → k ≠ m → k ≠ n ∧ H.get k = some p := fun k p hk hne => by
    rw [hget, if_neg hne, Hp.get_kill hlt] at hk
    by_cases e : k = n
    · rw [if_pos e] at hk; cases hk
    · rw [if_neg e] at hk; exact ⟨e, hk⟩
  let ι' : Iota := fun k => if k = m then some B' else ι k
  have hi : ι' m = some B' := if_pos rfl
  have hne : ∀ k, k ≠ m → ι' k = ι k := fun k h => if_neg h
  have hext : Ext ι ι' := fun k C hc => by
    by_cases e : k = m
    · subst e; rw [hnone] at hc; cases hc
    · rw [hne k e]; exact hc
  have hoth : ∀ b, b ≠ B.block → (w.heap.setIfInBounds B.block x)[b]? = w.heap[b]? := fun b hb => by simp [Ne.symm hb]
  have hapart : ∀ k p C, k ≠ n → H.get k = some p → ι k = some C → C.block ≠ B.block := fun k p C hk hgk hc e => hk (I.inj k n p o C B hgk hg hc hn e)
  refine ⟨ι', hi, ⟨fun k C hc => ?_, ?_, fun k p hk => ?_, fun k j p q C D hk hj hc hdd e => ?_, fun b hb => ?_, ?_, I.os, I.tape, I.output⟩, ⟨hext, fun k C hc => ?_, ?_, ?_, fun b hb hb2 => ?_, fun k p C hk hc hb => ?_⟩⟩
  · simp only [Array.size_setIfInBounds]
    by_cases e : k = m
    · subst e; rw [hi] at hc; cases hc; omega
    · rw [hne k e] at hc; have := I.dom k C hc; omega
  · rw [hnext]; omega
  · by_cases e : k = m
    · subst e
      rw [hget, if_pos rfl] at hk; cases hk
      exact ⟨B', x, hi, by simp [hB, hd.2.1], hr ι' hext hi⟩
    · obtain ⟨hkn, hgk⟩ := hgm k p hk e
      obtain ⟨C, y, hc, hy, hob⟩ := I.live k p hgk
      exact ⟨C, y, by rw [hne k e]; exact hc, (hoth _ (hapart k p C hkn hgk hc)).trans hy, hob.mono hext⟩
  · by_cases e1 : k = m <;> by_cases e2 : j = m
    · rw [e1, e2]
    · obtain ⟨hjn, hgj⟩ := hgm j q hj e2
      rw [hne j e2] at hdd; subst e1; rw [hi] at hc; cases hc
      exact absurd (e.symm.trans hB) (hapart j q D hjn hgj hdd)
    · obtain ⟨hkn, hgk⟩ := hgm k p hk e1
      rw [hne k e1] at hc; subst e2; rw [hi] at hdd; cases hdd
      exact absurd (e.trans hB) (hapart k p C hkn hgk hc)
    · rw [hne k e1] at hc; rw [hne j e2] at hdd
      exact I.inj k j p q C D (hgm k p hk e1).2 (hgm j q hj e2).2 hc hdd e
  · rw [hoth b (by omega)]; exact I.old b hb
  · simpa using I.size
  · by_cases e : k = m
    · exact .inr (by omega)
    · rw [hne k e] at hc; exact .inl hc
  · rw [hnext]; omega
  · simp
  · exact hoth b fun e => hb2 n o B hg hn e.symm
  · by_cases e : k = m
    · subst e; rw [hi] at hc; cases hc
      exact ⟨n, o, B, hg, hn, hB.symm⟩
    · rw [hne k e] at hc; exact ⟨k, p, C, (hgm k p hk e).2, hc, rfl⟩
end Go.Am
