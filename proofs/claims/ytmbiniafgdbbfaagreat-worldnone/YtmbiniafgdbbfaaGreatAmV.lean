/- The abstract machine's operations are the model's: maps. -/
import Derived.Test.YtmbiniafgdbbfaaGreatAmU
set_option linter.unusedSimpArgs false
set_option linter.unusedVariables false
set_option linter.unusedVariables false
namespace Go.Am
section
variable {X : Cx} {w0 : World} {ι : Iota} {H : Hp} {w : World}

theorem run_getObj {P : Program} {r : Nat} {o : Obj} (h : w.heap[r]? = some o) (hc : ∀ c e f, o ≠ .cells c e f) : (getObj r).run P w = .ok o w := by
  cases o <;> first
    | exact absurd rfl (hc _ _ _)
    | simp [getObj, Sem.run, h]
theorem run_setObj {P : Program} {r : Nat} {o x : Obj} (h : w.heap[r]? = some o) (hc : ∀ c e f, o ≠ .cells c e f) : (setObj r x).run P w = .ok () (putW w r x) := by
  cases o <;> first
    | exact absurd rfl (hc _ _ _)
    | simp [setObj, Sem.run, h, putW]

theorem keyOf_eq {t k : TypeId} (h : keyOf X t = some k) : ∃ e, X.P.underlying t = some (.map k e) := by
  unfold keyOf at h; split at h
  · cases h; exact ⟨_, by assumption⟩
  · cases h

theorem sameNow_eq (I : Inv w0 ι H w) {n : Nat} {kt : TypeId} {d : TypeDesc} {x y x' y' : Value} {b b' : Bool} (hu : X.P.underlying kt = some d) (he : eqA X (n + 1) kt x y = some b) (hx : VR ι x x') (hy : VR ι y y')
    (hs : Instr.sameNow d x' y' = some b') : b' = b := by
  unfold Instr.sameNow at hs
  split at hs
  · cases hx; cases hy
    simp only [eqA, hu] at he
    split at he
    · rename_i e; rw [if_pos e] at hs; cases hs; cases he; rfl
    · cases he
  · cases hx; cases hy
    simp only [eqA, hu, Option.some.injEq] at he
    cases hs; rw [← he, str_beq]
  · cases hx; cases hy
    simp only [eqA, hu, Option.some.injEq] at he
    cases hs; exact he
  · cases hs

def foundR (ι : Iota) : Option (Nat × Value) → Option (Nat × Value) → Prop
  | none, none => True
  | some (i, v), some (j, v') => i = j ∧ VR ι v v'
  | _, _ => False

theorem findNow_ok (I : Inv w0 ι H w) {kt : TypeId} {d : TypeDesc} {k k' : Value} (hu : X.P.underlying kt = some d) (hk : VR ι k k') : ∀ (es es' : List MapEntry) (i : Nat) (r r' : Option (Nat × Value)),
    ERs ι es es' → findA X kt k es i = some r → Instr.findNow d k' es' i = some r' → foundR ι r r'
  | _, _, i, r, r', .nil, h, h' => by simp [findA] at h; simp [Instr.findNow] at h'; subst h; subst h'; trivial
  | _, _, i, r, r', .cons (e := e) (e' := e') (l := l) (l' := l') ek ev eb et, h, h' => by
    simp only [findA, Option.bind_eq_some_iff] at h
    obtain ⟨b, hb, h⟩ := h
    simp only [Instr.findNow] at h'
    cases hs : Instr.sameNow d k' e'.key with
    | none => rw [hs] at h'; cases h'
    | some b' =>
      have := sameNow_eq I hu hb hk ek hs
      subst this
      rw [hs] at h'
      cases b' <;> simp only [cond_true, cond_false, Option.some.injEq] at h h'
      · exact findNow_ok I hu hk l l' (i + 1) r r' et h h'
      · subst h; subst h'; exact ⟨rfl, ev⟩

theorem findAsk_ok (I : Inv w0 ι H w) {kt : TypeId} {k k' : Value} (hk : VR ι k k') : ∀ (es es' : List MapEntry) (i : Nat) (r : Option (Nat × Value)),
    ERs ι es es' → findA X kt k es i = some r → ∃ r', (Instr.findAsking kt k' es' i).run X.P w = .ok r' w ∧ foundR ι r r'
  | _, _, i, r, .nil, h => by simp [findA] at h; subst h; exact ⟨none, by simp [Instr.findAsking], trivial⟩
  | _, _, i, r, .cons (e := e) (e' := e') (l := l) (l' := l') ek ev eb et, h => by
    simp only [findA, Option.bind_eq_some_iff] at h
    obtain ⟨b, hb, h⟩ := h
    have hq := eqA_ok I 40 kt k e.key k' e'.key b hb hk ek 10000 (by omega)
    cases b <;> simp only [cond_true, cond_false, Option.some.injEq] at h
    · obtain ⟨r', hr, hf⟩ := findAsk_ok I hk l l' (i + 1) r et h
      exact ⟨r', by simp [Instr.findAsking, Op.equal, Op.maxDepth, hq, hr], hf⟩
    · subst h
      exact ⟨some (i, e'.val), by simp [Instr.findAsking, Op.equal, Op.maxDepth, hq], rfl, ev⟩

theorem findA_ok (I : Inv w0 ι H w) {kt : TypeId} {k k' : Value} (hk : VR ι k k') {es es' : List MapEntry} {r : Option (Nat × Value)} (he : ERs ι es es') (h : findA X kt k es 0 = some r) {d : TypeDesc} (hu : X.P.underlying kt = some d) :
    ∃ r', (Instr.findKey kt k' es').run X.P w = .ok r' w ∧ foundR ι r r' := by
  cases hn : Instr.findNow d k' es' 0 with
  | some r' => exact ⟨r', by simp [Instr.findKey, run_underlying' hu, hn], findNow_ok I hu hk es es' 0 r r' he h hn⟩
  | none =>
    obtain ⟨r', hr, hf⟩ := findAsk_ok I hk es es' 0 r he h
    exact ⟨r', by simp [Instr.findKey, run_underlying' hu, hn, hr], hf⟩

theorem forIn_unit {α : Type} {P : Program} {body : α → PUnit → Sem (ForInStep PUnit)} : ∀ (l : List α), (∀ x ∈ l, (body x ⟨⟩).run P w = .ok (.yield ⟨⟩) w) → (forIn l (PUnit.unit) body).run P w = .ok ⟨⟩ w
  | [], _ => by simp
  | x :: l, h => by simp [List.forIn_cons, h x (by simp), forIn_unit l fun y hy => h y (by simp [hy])]

theorem checkKeyA_ok : ∀ (d : Nat) (t : TypeId) (v v' : Value), VR ι v v' → checkKeyA X d t v = true → ∀ D, d ≤ D → ∀ e, (Instr.checkKey e D t v').run X.P w = .ok () w
  | 0, _, _, _, _, h, _, _, _ => by simp [checkKeyA] at h
  | d + 1, t, v, v', hv, h, 0, hD, _ => by omega
  | d + 1, t, v, v', hv, h, D + 1, hD, e => by
    unfold checkKeyA at h
    split at h
    · rename_i fs cs hu
      cases hv with
      | agg hcs =>
        simp only [Instr.checkKey, Sem.run_bind, run_underlying' hu, Result.andThen_ok]
        rw [← Array.forIn_toList, forIn_unit fs.toList fun f hf => ?_]
        · simp
        have hf' := List.all_eq_true.1 h f hf
        by_cases hn : f.name = "_"
        · simp [hn]
        · simp only [hn, if_false] at hf'
          split at hf'
          · rename_i p hp
            obtain ⟨p', hr, hq⟩ := partA_ok (w := w) hcs hp
            simp [hn, hr, checkKeyA_ok d f.type p p' hq hf' D (by omega) e]
          · cases hf'
    · cases h
    · cases h
    · cases h
    · rename_i dd h1 h2 h3 h4 h5
      obtain ⟨u, hu⟩ : ∃ u, X.P.underlying t = some u := ⟨_, by assumption⟩
      have hd : dd = u := by simp_all
      have hr := run_underlying' (w := w) hu
      subst hd
      cases dd <;> first
        | (simp [Instr.checkKey, hr]; done)
        | (simp_all; done)
    · cases h

theorem key_und {d : Nat} {t : TypeId} {v : Value} (h : checkKeyA X (d + 1) t v = true) : ∃ u, X.P.underlying t = some u := by
  unfold checkKeyA at h
  split at h <;> first | exact ⟨_, by assumption⟩ | cases h

theorem plainSame_ok {a b a' b' : Value} (n : Nat) (ha : VR ι a a') (hb : VR ι b b') (h : plainSame a b = true) : Instr.sameBits n a' b' = true := by
  unfold plainSame at h
  split at h
  · cases ha; cases hb; cases n <;> simpa [Instr.sameBits] using h
  · cases ha; cases hb; cases n <;> simpa [Instr.sameBits] using h
  · cases ha; cases hb; rw [← str_beq] at h; cases n <;> simpa [Instr.sameBits] using h
  · cases h
theorem zip_same : ∀ {l m l' m' : List Value} (n : Nat), VRs ι l l' → VRs ι m m' → (l.zip m).all (fun (x, y) => plainSame x y) = true → (l'.zip m').all (fun (x, y) => Instr.sameBits n x y) = true
  | _, _, _, _, n, .nil, _, _ => by simp
  | _, _, _, _, n, .cons _ _, .nil, _ => by simp
  | _, _, _, _, n, .cons h1 t1, .cons h2 t2, h => by
    simp only [List.zip_cons_cons, List.all_cons, Bool.and_eq_true] at h ⊢
    exact ⟨plainSame_ok n h1 h2 h.1, zip_same n t1 t2 h.2⟩
theorem keySame_ok {a b a' b' : Value} (ha : VR ι a a') (hb : VR ι b b') (h : keySame a b = true) : Instr.sameBits 10000 a' b' = true := by
  unfold keySame at h
  split at h
  · cases ha with
    | agg h1 => cases hb with
      | agg h2 =>
        simp only [Bool.and_eq_true] at h
        have hs := Nat.eq_of_beq_eq_true h.1
        have l1 := h1.length
        have l2 := h2.length
        simp only [Array.length_toList] at l1 l2
        show Instr.sameBits (9999 + 1) _ _ = true
        simp only [Instr.sameBits, Bool.and_eq_true]
        exact ⟨by simp; omega, zip_same 9999 h1 h2 h.2⟩
  · exact plainSame_ok _ ha hb h

theorem ERs.modify {l l' : List MapEntry} (h : ERs ι l l') : ∀ (i : Nat) (f g : MapEntry → MapEntry), (∀ e e', VR ι e.key e'.key → VR ι e.val e'.val → e.born = e'.born → VR ι (f e).key (g e').key ∧ VR ι (f e).val (g e').val ∧ (f e).born = (g e').born) →
    ERs ι (l.modify i f) (l'.modify i g) := by
  induction h with
  | nil => intro i f g _; simp; exact .nil
  | cons hk hv hb t ih =>
    intro i f g hfg
    cases i with
    | zero => simp only [List.modify_zero_cons]; obtain ⟨a, b, c⟩ := hfg _ _ hk hv hb; exact .cons a b c t
    | succ i => simp only [List.modify_succ_cons]; exact .cons hk hv hb (ih i f g hfg)
theorem ERs.erase {l l' : List MapEntry} (h : ERs ι l l') : ∀ (i : Nat), ERs ι (l.eraseIdx i) (l'.eraseIdx i) := by
  induction h with
  | nil => intro i; simp; exact .nil
  | cons hk hv hb t ih =>
    intro i
    cases i with
    | zero => simpa using t
    | succ i => simpa using ERs.cons hk hv hb (ih i)
theorem ERs.filter {l l' : List MapEntry} (h : ERs ι l l') (q : Nat → Bool) : ERs ι (l.filter fun e => q e.born) (l'.filter fun e => q e.born) := by
  induction h with
  | nil => exact .nil
  | cons hk hv hb t ih =>
    simp only [List.filter_cons, hb]
    split
    · exact .cons hk hv hb ih
    · exact ih
theorem ERs.all {l l' : List MapEntry} (h : ERs ι l l') (q : Nat → Bool) : (l'.all fun e => q e.born) = (l.all fun e => q e.born) := by
  induction h with
  | nil => rfl
  | cons hk hv hb t ih => simp only [List.all_cons, hb, ih]
theorem ERs.find {l l' : List MapEntry} (h : ERs ι l l') (q : Nat → Bool) {e : MapEntry} (hf : l.find? (fun e => q e.born) = some e) : ∃ e', l'.find? (fun e => q e.born) = some e' ∧ VR ι e.key e'.key ∧ VR ι e.val e'.val ∧ e.born = e'.born := by
  induction h with
  | nil => simp at hf
  | cons hk hv hb t ih =>
    rw [List.find?_cons] at hf
    rw [List.find?_cons, ← hb]
    split at hf
    · cases hf; exact ⟨_, rfl, hk, hv, hb⟩
    · exact ih hf
theorem ERs.findIdx {l l' : List MapEntry} (h : ERs ι l l') (q : Nat → Bool) : l'.findIdx? (fun e => q e.born) = l.findIdx? (fun e => q e.born) := by
  induction h with
  | nil => rfl
  | cons hk hv hb t ih => simp only [List.findIdx?_cons, hb, ih]

/-- Behind a map's handle. -/
theorem map_inv (I : Inv w0 ι H w) {n : Nat} {es : List MapEntry} {clock : Nat} (h : H.get n = some (.map es clock)) {m' : Value} (hm : VR ι (.map (some n)) m') :
    ∃ B es', ι n = some B ∧ m' = .map (some B.block) ∧ w.heap[B.block]? = some (.map es' clock) ∧ ERs ι es es'.toList := by
  obtain ⟨B, x, hB, hx, hob⟩ := I.live n _ h
  cases x <;> simp only [ObR] at hob
  obtain ⟨rfl, hE⟩ := hob
  cases hm with
  | map h' => rw [hB] at h'; cases h'; exact ⟨B, _, hB, rfl, hx, hE⟩
  | mapF r => have := I.lt hB; omega

theorem map_set (I : Inv w0 ι H w) {n : Nat} {es : List MapEntry} {clock : Nat} (h : H.get n = some (.map es clock)) {B : Blk} (hB : ι n = some B) {fs : List MapEntry} {fs' : Array MapEntry} {c : Nat} (hE : ERs ι fs fs'.toList) :
    Inv w0 ι (H.set n (.map fs c)) (putW w B.block (.map fs' c)) ∧ Tran ι H w ι (H.set n (.map fs c)) (putW w B.block (.map fs' c)) :=
  I.setObj h hB _ _ (by simpa only [ObR, true_and] using hE)

theorem look_fin {P : Program} {e : TypeId} {ok : Bool} {r : Option (Nat × Value)} {v : Value × Bool} : ((match r with
      | some (_, v) => pure (v, true)
      | none => (do pure (← zeroValue e, false)) : Sem (Value × Bool))).run P w = .ok v w →
    (match r with
      | some (_, v) => pure (if ok = true then Value.tuple #[v, Value.bool true] else v)
      | none => (fun a => if ok = true then Value.tuple #[a, Value.bool false] else a) <$> zeroValue e : Sem Value).run P w = .ok (if ok = true then Value.tuple #[v.1, Value.bool v.2] else v.1) w := by
  intro h
  cases r with
  | none =>
    simp only [Sem.run_bind] at h
    cases hz : (zeroValue e).run P w with
    | ok z w1 =>
      simp only [hz, Result.andThen_ok, Sem.run_pure, Result.ok.injEq] at h
      obtain ⟨rfl, rfl⟩ := h
      simp [hz]
    | halt x w1 => simp [hz] at h
  | some x =>
    simp only [Sem.run_pure, Result.ok.injEq, and_true] at h
    subst h; simp

theorem lookupA_ok (I : Inv w0 ι H w) {t : TypeId} {m m' k k' v : Value} {ok : Bool} (hm : VR ι m m') (hk : VR ι k k') (h : lookupA X H t m k ok = some v) : ∃ v', (Instr.lookup t m' k' ok).run X.P w = .ok v' w ∧ VR ι v v' := by
  simp only [lookupA, Option.bind_eq_some_iff] at h
  obtain ⟨kt, hkt, et, het, es, hes, h⟩ := h
  obtain ⟨e0, hu⟩ := keyOf_eq hkt
  have : e0 = et := by simp only [valOf, hu, Option.some.injEq] at het; exact het
  subst this
  cases hc : (keyVal k && checkKeyA X 40 kt k) <;> simp only [hc, cond_true, cond_false] at h
  · cases h
  simp only [Bool.and_eq_true] at hc
  obtain ⟨u, hku⟩ := key_und hc.2
  have hck := fun e => checkKeyA_ok (w := w) 40 kt k k' hk hc.2 10000 (by omega) e
  have hm2 : (m' = .map none ∧ es = []) ∨ ∃ (b : Nat) (es' : Array MapEntry) (c : Nat), m' = .map (some b) ∧ w.heap[b]? = some (.map es' c) ∧ ERs ι es es'.toList := by
    unfold mapAt at hes
    split at hes
    · cases hes; cases hm; exact .inl ⟨rfl, rfl⟩
    · split at hes
      · rename_i hg
        cases hes
        obtain ⟨B, es', hB, rfl, hx, hE⟩ := map_inv I hg hm
        exact .inr ⟨_, es', _, rfl, hx, hE⟩
      · cases hes
    · cases hes
  simp only [Option.bind_eq_some_iff] at h
  obtain ⟨r, hr, h⟩ := h
  have fin : ∀ (r' : Option (Nat × Value)), foundR ι r r' → ∃ v', ((match r' with
      | some (_, v) => pure (v, true)
      | none => (do pure (← zeroValue e0, false)) : Sem (Value × Bool))).run X.P w = .ok v' w ∧ VR ι v (if ok then .tuple #[v'.1, .bool v'.2] else v'.1) := by
    intro r' hf
    cases r with
    | none =>
      cases r' with
      | some x => simp only [foundR] at hf
      | none =>
        simp only [Option.map_eq_some_iff] at h
        obtain ⟨z, hz, rfl⟩ := h
        have hzv := zeroOf_vr (ι := ι) hz
        refine ⟨(z, false), by simp [run_zeroOf hz], ?_⟩
        cases ok
        · simpa using hzv
        · simpa using VR.tuple (.cons hzv (.cons (.bool _) .nil))
    | some x =>
      obtain ⟨i, v0⟩ := x
      cases r' with
      | none => simp only [foundR] at hf
      | some y =>
        obtain ⟨j, v0'⟩ := y
        obtain ⟨rfl, hv0⟩ := hf
        simp only [Option.some.injEq] at h; subst h
        refine ⟨(v0', true), by simp, ?_⟩
        cases ok
        · simpa using hv0
        · simpa using VR.tuple (.cons hv0 (.cons (.bool _) .nil))
  rcases hm2 with ⟨rfl, rfl⟩ | ⟨b, es', c, rfl, hx, hE⟩
  · obtain ⟨r', hr', hf⟩ := findA_ok I hk (es' := []) .nil hr hku
    obtain ⟨v', hv', hvr⟩ := fin r' hf
    refine ⟨_, ?_, hvr⟩
    simp [Instr.lookup, run_underlying' hu, hck, hr']
    exact look_fin hv'
  · obtain ⟨r', hr', hf⟩ := findA_ok I hk hE hr hku
    obtain ⟨v', hv', hvr⟩ := fin r' hf
    refine ⟨_, ?_, hvr⟩
    simp [Instr.lookup, run_underlying' hu, hck, run_getObj hx, hr']
    exact look_fin hv'
end
end Go.Am
