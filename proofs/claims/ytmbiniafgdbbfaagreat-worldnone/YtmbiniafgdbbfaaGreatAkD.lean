/- The fast machine: laws of its trees, lists, ropes and numbers. -/
import Derived.Test.YtmbiniafgdbbfaaGreatAkC
set_option linter.unusedSimpArgs false
set_option linter.unusedVariables false
set_option linter.unusedVariables false
namespace Go.Am

theorem lt8 {d : Nat} (h : d < 8) : d = 0 ∨ d = 1 ∨ d = 2 ∨ d = 3 ∨ d = 4 ∨ d = 5 ∨ d = 6 ∨ d = 7 := by omega
theorem land7 (i : Nat) : Nat.land i 7 = i % 8 := Nat.and_two_pow_sub_one_eq_mod i 3
theorem shr (i k : Nat) : Nat.shiftRight i k = i / 2 ^ k := Nat.shiftRight_eq_div_pow i k
theorem ble_le {a b : Nat} : Nat.ble a b = decide (a ≤ b) := by
  by_cases h : a ≤ b
  · rw [Nat.ble_eq_true_of_le h, decide_eq_true h]
  · cases hb : Nat.ble a b with
    | false => simp [h]
    | true => exact absurd (Nat.le_of_ble_eq_true hb) h
theorem blt_lt {a b : Nat} : Nat.blt a b = decide (a < b) := ble_le
theorem beq_eq' {a b : Nat} : Nat.beq a b = decide (a = b) := by
  cases h : Nat.beq a b with
  | true => simp [Nat.eq_of_beq_eq_true h]
  | false => simp; exact Nat.ne_of_beq_eq_false h

namespace T8
variable {α : Type}
theorem kid_upd (u : T8 α → T8 α) (t : T8 α) {d e : Nat} (hd : d < 8) (he : e < 8) : kid (upd d u t) e = if e = d then u (kid t d) else kid t e := by
  rcases lt8 hd with rfl | rfl | rfl | rfl | rfl | rfl | rfl | rfl <;> rcases lt8 he with rfl | rfl | rfl | rfl | rfl | rfl | rfl | rfl <;> cases t <;> rfl
theorem kid_no (d : Nat) : kid (.no : T8 α) d = .no := rfl
theorem top_el (x : α) : top (.el x) = some x := rfl
theorem top_no : top (.no : T8 α) = none := rfl

theorem get6_eq (t : T8 α) (i : Nat) : t.get6 i = top (kid (kid (kid (kid (kid (kid t (i / 32768 % 8)) (i / 4096 % 8)) (i / 512 % 8)) (i / 64 % 8)) (i / 8 % 8)) (i % 8)) := by
  simp only [get6, get5, get4, get3, get2, get1, land7, shr]
theorem set6_eq (x t : T8 α) (i : Nat) : set6 x i t = upd (i / 32768 % 8) (upd (i / 4096 % 8) (upd (i / 512 % 8) (upd (i / 64 % 8) (upd (i / 8 % 8) (upd (i % 8) fun _ => x))))) t := by
  unfold set6 set5 set4 set3 set2 set1
  simp only [land7, shr]
theorem get6_set6 (x t : T8 α) {i j : Nat} (hi : i < 262144) (hj : j < 262144) : (set6 x i t).get6 j = if j = i then top x else t.get6 j := by
  have hm : ∀ n : Nat, n % 8 < 8 := fun n => Nat.mod_lt _ (by decide)
  rw [set6_eq, get6_eq, get6_eq]
  by_cases e : j = i
  · subst e
    simp only [kid_upd _ _ (hm _) (hm _), if_true]
  · rw [if_neg e]
    by_cases e5 : j / 32768 % 8 = i / 32768 % 8
    · by_cases e4 : j / 4096 % 8 = i / 4096 % 8
      · by_cases e3 : j / 512 % 8 = i / 512 % 8
        · by_cases e2 : j / 64 % 8 = i / 64 % 8
          · by_cases e1 : j / 8 % 8 = i / 8 % 8
            · have e0 : j % 8 ≠ i % 8 := by omega
              simp only [kid_upd _ _ (hm _) (hm _), e5, e4, e3, e2, e1, if_true, if_neg e0]
            · simp only [kid_upd _ _ (hm _) (hm _), e5, e4, e3, e2, if_true, if_neg e1]
          · simp only [kid_upd _ _ (hm _) (hm _), e5, e4, e3, if_true, if_neg e2]
        · simp only [kid_upd _ _ (hm _) (hm _), e5, e4, if_true, if_neg e3]
      · simp only [kid_upd _ _ (hm _) (hm _), e5, if_true, if_neg e4]
    · simp only [kid_upd _ _ (hm _) (hm _), if_neg e5]
end T8

/-! Temporaries. -/
theorem kidG_eq (k : G (T8 Value) Value) (t : T8 Value) {d : Nat} (hd : d < 8) : (kidG d k).f t = k.f (T8.kid t d) := by
  rcases lt8 hd with rfl | rfl | rfl | rfl | rfl | rfl | rfl | rfl <;> cases t <;> rfl
theorem kidS_eq (k : S8) (t : T8 Value) (v : Value) {d : Nat} (hd : d < 8) : (kidS d k).f t v = T8.upd d (fun x => k.f x v) t := by
  rcases lt8 hd with rfl | rfl | rfl | rfl | rfl | rfl | rfl | rfl <;> cases t <;> rfl

theorem tmpG_set {nt s t : Nat} (hs : s < nt) (ht : t < nt) (hn : nt ≤ 512) (env : E2) (v : Value) : (tmpG nt t).f ((tmpS nt s).f env v) = if t = s then v else (tmpG nt t).f env := by
  have hm : ∀ n : Nat, n % 8 < 8 := fun n => Nat.mod_lt _ (by decide)
  unfold tmpG tmpS
  simp only [land7, shr, ble_le]
  by_cases h8 : nt ≤ 8
  · simp only [h8, decide_true, cond_true, kidG_eq _ _ (hm _), kidS_eq _ _ _ (hm _), T8.kid_upd _ _ (hm _) (hm _)]
    by_cases e : t = s
    · subst e; simp; rfl
    · rw [if_neg e, if_neg (by omega)]
  · by_cases h64 : nt ≤ 64
    · simp only [h8, h64, decide_true, decide_false, cond_true, cond_false, kidG_eq _ _ (hm _), kidS_eq _ _ _ (hm _), T8.kid_upd _ _ (hm _) (hm _)]
      by_cases e : t = s
      · subst e; simp [T8.kid_upd _ _ (hm _) (hm _)]; rfl
      · rw [if_neg e]
        by_cases e1 : t / 2 ^ 3 % 8 = s / 2 ^ 3 % 8
        · rw [if_pos e1, T8.kid_upd _ _ (hm _) (hm _), if_neg (by omega), e1]
        · rw [if_neg e1]
    · simp only [h8, h64, decide_false, cond_false, kidG_eq _ _ (hm _), kidS_eq _ _ _ (hm _), T8.kid_upd _ _ (hm _) (hm _)]
      by_cases e : t = s
      · subst e; simp [T8.kid_upd _ _ (hm _) (hm _)]; rfl
      · rw [if_neg e]
        by_cases e2 : t / 2 ^ 6 % 8 = s / 2 ^ 6 % 8
        · rw [if_pos e2, T8.kid_upd _ _ (hm _) (hm _)]
          by_cases e1 : t / 2 ^ 3 % 8 = s / 2 ^ 3 % 8
          · rw [if_pos e1, T8.kid_upd _ _ (hm _) (hm _), if_neg (by omega), e2, e1]
          · rw [if_neg e1, e2]
        · rw [if_neg e2]
theorem tmpG_no {nt t : Nat} : (tmpG nt t).f .no = undef := by
  have hm : ∀ n : Nat, n % 8 < 8 := fun n => Nat.mod_lt _ (by decide)
  unfold tmpG
  simp only [land7, shr]
  cases Nat.ble nt 8 <;> cases Nat.ble nt 64 <;> simp only [cond_true, cond_false, kidG_eq _ _ (hm _), T8.kid_no] <;> rfl

/-! Lists. -/
section
variable {α : Type}
theorem lget_eq (l : List α) : ∀ i, lget l i = l[i]? := by
  induction l with
  | nil => intro i; rfl
  | cons a l ih => intro i; cases i with
    | zero => rfl
    | succ i => rw [List.getElem?_cons_succ]; exact ih i
theorem lset_eq (v : α) (l : List α) : ∀ i, lset v l i = l.set i v := by
  induction l with
  | nil => intro i; rfl
  | cons a l ih => intro i; cases i with
    | zero => rfl
    | succ i => exact congrArg (a :: ·) (ih i)
theorem ltake_eq (l : List α) : ∀ i, ltake l i = l.take i := by
  induction l with
  | nil => intro i; simp; rfl
  | cons a l ih => intro i; cases i with
    | zero => rfl
    | succ i => exact congrArg (a :: ·) (ih i)
theorem ldrop_eq (l : List α) : ∀ i, ldrop l i = l.drop i := by
  induction l with
  | nil => intro i; simp; rfl
  | cons a l ih => intro i; cases i with
    | zero => rfl
    | succ i => exact ih i
theorem lapp_eq (l m : List α) : lapp l m = l ++ m := by
  induction l with
  | nil => rfl
  | cons a l ih => exact congrArg (a :: ·) ih
theorem llenA_eq (l : List α) : ∀ n, llenA l n = n + l.length := by
  induction l with
  | nil => intro n; rfl
  | cons a l ih =>
    intro n
    have : llenA (a :: l) n = llenA l (n + 1) := by
      have h : ∀ b : Bool, (Bool.rec (llenA l (n + 1)) (llenA l (n + 1)) b : Nat) = llenA l (n + 1) := fun b => by cases b <;> rfl
      exact h (Nat.beq n 0)
    rw [this, ih]; simp; omega
theorem llen_eq (l : List α) : llen l = l.length := by rw [llen, llenA_eq]; simp
theorem lput_eq (vs : List Value) : ∀ l, lput vs l = vs ++ l.drop vs.length := by
  induction vs with
  | nil => intro l; rfl
  | cons v vs ih => intro l; cases l with
    | nil => show v :: lput vs [] = _; rw [ih]; simp
    | cons a l => show v :: lput vs l = _; rw [ih]; simp
end

theorem repeatL_length (z : List Value) (n : Nat) : (repeatL z n).length = n * z.length := by
  induction n with
  | zero => simp [repeatL]
  | succ n ih => simp [repeatL, ih, Nat.succ_mul]; omega
theorem repeatL_add (z : List Value) (a b : Nat) : repeatL z (a + b) = repeatL z a ++ repeatL z b := by
  induction a with
  | zero => simp [repeatL]
  | succ a ih => rw [Nat.succ_add]; simp [repeatL, ih]

/-! Ropes. -/
namespace Rp
/-- The widths that are written down are the true ones. -/
inductive Ok : Rp → Prop
  | lf (l : List Value) : Ok (.lf l)
  | rp {n w : Nat} {r : Rp} (h : Ok r) (e : r.toL.length = w) : Ok (.rp n w r)
  | ct {w : Nat} {l r : Rp} (hl : Ok l) (hr : Ok r) (e : l.toL.length = w) : Ok (.ct w l r)

theorem get_lf (l : List Value) (i : Nat) : (lf l).get i = l[i]? := lget_eq l i
theorem get_ok {r : Rp} (h : Ok r) : ∀ i, r.get i = r.toL[i]? := by
  induction h with
  | lf l => intro i; exact lget_eq l i
  | @rp n w r h e ih =>
    intro i
    show (bif Nat.blt i (n * w) then r.get (i % w) else none) = (repeatL r.toL n)[i]?
    rw [blt_lt]
    by_cases hi : i < n * w
    · simp only [hi, decide_true, cond_true]
      rw [ih]
      have hw : 0 < w := by rcases Nat.eq_zero_or_pos w with h0 | h0; (subst h0; simp at hi); exact h0
      have : ∀ n i, i < n * w → (repeatL r.toL n)[i]? = r.toL[i % w]? := by
        intro n
        induction n with
        | zero => intro i hi; simp at hi
        | succ n ihn =>
          intro i hi
          simp only [repeatL]
          by_cases hlt : i < w
          · rw [List.getElem?_append_left (by omega), Nat.mod_eq_of_lt hlt]
          · rw [List.getElem?_append_right (by omega), e, ihn (i - w) (by rw [Nat.succ_mul] at hi; omega)]
            congr 1
            exact (Nat.mod_eq_sub_mod (by omega)).symm
      exact (this n i hi).symm
    · simp only [hi, decide_false, cond_false]
      rw [List.getElem?_eq_none]
      rw [repeatL_length, e]; omega
  | @ct w l r hl hr e ihl ihr =>
    intro i
    show (bif Nat.blt i w then l.get i else r.get (i - w)) = (l.toL ++ r.toL)[i]?
    rw [blt_lt]
    by_cases hi : i < w
    · simp only [hi, decide_true, cond_true]; rw [ihl, List.getElem?_append_left (by omega)]
    · simp only [hi, decide_false, cond_false]; rw [ihr, List.getElem?_append_right (by omega), e]

theorem repeat_split (z : List Value) {n w i : Nat} (e : z.length = w) (hi : i < n * w) : repeatL z n = repeatL z (i / w) ++ (z ++ repeatL z (n - i / w - 1)) := by
  have hw : 0 < w := by rcases Nat.eq_zero_or_pos w with h0 | h0; (subst h0; simp at hi); exact h0
  have hq : i / w < n := (Nat.div_lt_iff_lt_mul hw).2 hi
  have : n = i / w + (1 + (n - i / w - 1)) := by omega
  conv => lhs; rw [this]
  rw [repeatL_add, repeatL_add]; simp [repeatL]

theorem set_ok {r : Rp} (h : Ok r) (v : Value) : ∀ i, i < r.toL.length → Ok (r.set v i) ∧ (r.set v i).toL = r.toL.set i v := by
  induction h with
  | lf l => intro i hi; exact ⟨.lf _, lset_eq v l i⟩
  | @rp n w r h e ih =>
    intro i hi
    have hi : i < n * w := by simpa [toL, repeatL_length, e] using hi
    have hw : 0 < w := by rcases Nat.eq_zero_or_pos w with h0 | h0; (subst h0; simp at hi); exact h0
    have hm : i % w < r.toL.length := by rw [e]; exact Nat.mod_lt _ hw
    obtain ⟨o, t⟩ := ih (i % w) hm
    show Ok (.ct (i / w * w) (.rp (i / w) w r) (.ct w (r.set v (i % w)) (.rp (n - i / w - 1) w r))) ∧ _
    refine ⟨.ct (.rp h e) (.ct o (.rp h e) (by rw [t]; simpa using e)) (by simp [toL, repeatL_length, e]), ?_⟩
    show repeatL r.toL (i / w) ++ ((r.set v (i % w)).toL ++ repeatL r.toL (n - i / w - 1)) = (repeatL r.toL n).set i v
    rw [repeat_split r.toL e hi, t]
    have hlen : (repeatL r.toL (i / w)).length = i / w * w := by rw [repeatL_length, e]
    have hdm : w * (i / w) + i % w = i := Nat.div_add_mod i w
    rw [Nat.mul_comm] at hdm
    rw [List.set_append_right _ _ (by omega), List.set_append_left _ _ (by omega)]
    congr 3
    omega
  | @ct w l r hl hr e ihl ihr =>
    intro i hi
    have hi : i < l.toL.length + r.toL.length := by simpa [toL] using hi
    show Ok (bif Nat.blt i w then .ct w (l.set v i) r else .ct w l (r.set v (i - w))) ∧ (bif Nat.blt i w then Rp.ct w (l.set v i) r else .ct w l (r.set v (i - w))).toL = _
    rw [blt_lt]
    by_cases hlt : i < w
    · simp only [hlt, decide_true, cond_true]
      obtain ⟨o, t⟩ := ihl i (by omega)
      refine ⟨.ct o hr (by rw [t]; simpa using e), ?_⟩
      show (l.set v i).toL ++ r.toL = (l.toL ++ r.toL).set i v
      rw [t, List.set_append_left _ _ (by omega)]
    · simp only [hlt, decide_false, cond_false]
      obtain ⟨o, t⟩ := ihr (i - w) (by omega)
      refine ⟨.ct hl o e, ?_⟩
      show l.toL ++ (r.set v (i - w)).toL = (l.toL ++ r.toL).set i v
      rw [t, List.set_append_right _ _ (by omega), e]

theorem drop_take_repeat (z : List Value) {n w i m : Nat} (e : z.length = w) (hm : 0 < m) (hi : i + m ≤ n * w) (h : i % w + m ≤ w) : ((repeatL z n).drop i).take m = (z.drop (i % w)).take m := by
  rw [repeat_split z e (show i < n * w by omega)]
  have hlen : (repeatL z (i / w)).length = i / w * w := by rw [repeatL_length, e]
  have hdm : w * (i / w) + i % w = i := Nat.div_add_mod i w
  rw [Nat.mul_comm] at hdm
  rw [List.drop_append, List.drop_eq_nil_of_le (by omega), List.nil_append, hlen, show i - i / w * w = i % w by omega, List.drop_append_of_le_length (by omega), List.take_append_of_le_length (by simp; omega)]

theorem cutA_ok {r : Rp} (h : Ok r) : ∀ i n acc, i + n ≤ r.toL.length → r.cutA i n acc = (r.toL.drop i).take n ++ acc := by
  induction h with
  | lf l => intro i n acc hi; show lapp (ltake (ldrop l i) n) acc = _; rw [lapp_eq, ltake_eq, ldrop_eq]; rfl
  | @rp k w r h e ih =>
    intro i n acc hi
    have hi : i + n ≤ k * w := by simpa [toL, repeatL_length, e] using hi
    show (bif Nat.ble (i % w + n) w then r.cutA (i % w) n acc else lapp (ltake (ldrop (repeatL r.toL k) i) n) acc) = ((repeatL r.toL k).drop i).take n ++ acc
    rw [ble_le]
    by_cases hc : i % w + n ≤ w
    · simp only [hc, decide_true, cond_true]
      rw [ih _ _ _ (by omega)]
      rcases Nat.eq_zero_or_pos n with h0 | h0
      · subst h0; simp
      · rw [drop_take_repeat r.toL e h0 hi hc]
    · simp only [hc, decide_false, cond_false]
      rw [lapp_eq, ltake_eq, ldrop_eq]
  | @ct w l r hl hr e ihl ihr =>
    intro i n acc hi
    have hi : i + n ≤ l.toL.length + r.toL.length := by simpa [toL] using hi
    show (bif Nat.ble (i + n) w then l.cutA i n acc else bif Nat.ble w i then r.cutA (i - w) n acc else l.cutA i (w - i) (r.cutA 0 (i + n - w) acc)) = ((l.toL ++ r.toL).drop i).take n ++ acc
    rw [ble_le, ble_le]
    by_cases h1 : i + n ≤ w
    · simp only [h1, decide_true, cond_true]
      rw [ihl _ _ _ (by omega), List.drop_append_of_le_length (by omega), List.take_append_of_le_length (by simp; omega)]
    · simp only [h1, decide_false, cond_false]
      by_cases h2 : w ≤ i
      · simp only [h2, decide_true, cond_true]
        rw [ihr _ _ _ (by omega), List.drop_append, List.drop_eq_nil_of_le (show l.toL.length ≤ i by omega), List.nil_append, e]
      · simp only [h2, decide_false, cond_false]
        rw [ihl _ _ _ (by omega), ihr _ _ _ (by omega), List.drop_append_of_le_length (by omega), List.take_append]
        simp only [List.length_drop, e, List.drop_zero]
        rw [← List.append_assoc]
        congr 2
        · rw [List.take_of_length_le (by simp; omega), List.take_of_length_le (by simp; omega)]
        · congr 1; omega

theorem splice_some {cs : List Value} {i : Nat} {vs : List Value} (h : i + vs.length ≤ cs.length) : splice cs i vs = some (cs.take i ++ (vs ++ cs.drop (i + vs.length))) := by
  simp only [splice, ble_le, h, decide_true, cond_true]

theorem put_ok {r : Rp} (h : Ok r) : ∀ i m vs, vs.length = m → i + m ≤ r.toL.length → Ok (r.put i m vs) ∧ (r.put i m vs).toL = r.toL.take i ++ (vs ++ r.toL.drop (i + m)) := by
  induction h with
  | lf l =>
    intro i m vs hv hi
    refine ⟨.lf _, ?_⟩
    show lapp (ltake l i) (lput vs (ldrop l i)) = _
    rw [lapp_eq, ltake_eq, lput_eq, ldrop_eq, List.drop_drop, hv]; rfl
  | @rp n w r h e ih =>
    intro i m vs hv hi
    have hi : i + m ≤ n * w := by simpa [toL, repeatL_length, e] using hi
    show Ok (bif Nat.ble (i % w + m) w && Nat.ble (i + 1) (n * w) then .ct (i / w * w) (.rp (i / w) w r) (.ct w (r.put (i % w) m vs) (.rp (n - i / w - 1) w r)) else .lf (lapp (ltake (repeatL r.toL n) i) (lput vs (ldrop (repeatL r.toL n) i)))) ∧
      (bif Nat.ble (i % w + m) w && Nat.ble (i + 1) (n * w) then Rp.ct (i / w * w) (.rp (i / w) w r) (.ct w (r.put (i % w) m vs) (.rp (n - i / w - 1) w r)) else .lf (lapp (ltake (repeatL r.toL n) i) (lput vs (ldrop (repeatL r.toL n) i)))).toL = (repeatL r.toL n).take i ++ (vs ++ (repeatL r.toL n).drop (i + m))
    rw [ble_le, ble_le]
    by_cases hc : i % w + m ≤ w ∧ i + 1 ≤ n * w
    · obtain ⟨hc, hin⟩ := hc
      simp only [hc, hin, decide_true, Bool.and_self, cond_true]
      obtain ⟨o, t⟩ := ih (i % w) m vs hv (by omega)
      refine ⟨.ct (.rp h e) (.ct o (.rp h e) (by rw [t]; simp only [List.length_append, List.length_take, List.length_drop, e, hv]; omega)) (by simp [toL, repeatL_length, e]), ?_⟩
      show repeatL r.toL (i / w) ++ ((r.put (i % w) m vs).toL ++ repeatL r.toL (n - i / w - 1)) = _
      rw [t, repeat_split r.toL e hin]
      have hlen : (repeatL r.toL (i / w)).length = i / w * w := by rw [repeatL_length, e]
      have hdm : w * (i / w) + i % w = i := Nat.div_add_mod i w
      rw [Nat.mul_comm] at hdm
      have a1 : (repeatL r.toL (i / w) ++ (r.toL ++ repeatL r.toL (n - i / w - 1))).take i = repeatL r.toL (i / w) ++ r.toL.take (i % w) := by
        rw [List.take_append, List.take_of_length_le (show (repeatL r.toL (i / w)).length ≤ i by omega), hlen, show i - i / w * w = i % w by omega, List.take_append_of_le_length (show i % w ≤ r.toL.length by omega)]
      have a2 : (repeatL r.toL (i / w) ++ (r.toL ++ repeatL r.toL (n - i / w - 1))).drop (i + m) = r.toL.drop (i % w + m) ++ repeatL r.toL (n - i / w - 1) := by
        rw [List.drop_append, List.drop_eq_nil_of_le (show (repeatL r.toL (i / w)).length ≤ i + m by omega), hlen, show i + m - i / w * w = i % w + m by omega, List.drop_append_of_le_length (show i % w + m ≤ r.toL.length by omega), List.nil_append]
      rw [a1, a2]
      simp
    · have hc : (decide (i % w + m ≤ w) && decide (i + 1 ≤ n * w)) = false := by simpa using hc
      simp only [hc, cond_false]
      refine ⟨.lf _, ?_⟩
      show lapp (ltake (repeatL r.toL n) i) (lput vs (ldrop (repeatL r.toL n) i)) = _
      rw [lapp_eq, ltake_eq, lput_eq, ldrop_eq, List.drop_drop, hv]
  | @ct w l r hl hr e ihl ihr =>
    intro i m vs hv hi
    have hi : i + m ≤ l.toL.length + r.toL.length := by simpa [toL] using hi
    show Ok (bif Nat.ble (i + m) w then .ct w (l.put i m vs) r else bif Nat.ble w i then .ct w l (r.put (i - w) m vs) else .ct w (l.put i (w - i) (ltake vs (w - i))) (r.put 0 (i + m - w) (ldrop vs (w - i)))) ∧
      (bif Nat.ble (i + m) w then Rp.ct w (l.put i m vs) r else bif Nat.ble w i then .ct w l (r.put (i - w) m vs) else .ct w (l.put i (w - i) (ltake vs (w - i))) (r.put 0 (i + m - w) (ldrop vs (w - i)))).toL = (l.toL ++ r.toL).take i ++ (vs ++ (l.toL ++ r.toL).drop (i + m))
    rw [ble_le, ble_le]
    by_cases h1 : i + m ≤ w
    · simp only [h1, decide_true, cond_true]
      obtain ⟨o, t⟩ := ihl i m vs hv (by omega)
      refine ⟨.ct o hr (by rw [t]; simp; omega), ?_⟩
      show (l.put i m vs).toL ++ r.toL = _
      rw [t, List.take_append_of_le_length (by omega), List.drop_append_of_le_length (by omega)]
      simp
    · simp only [h1, decide_false, cond_false]
      by_cases h2 : w ≤ i
      · simp only [h2, decide_true, cond_true]
        obtain ⟨o, t⟩ := ihr (i - w) m vs hv (by omega)
        refine ⟨.ct hl o e, ?_⟩
        show l.toL ++ (r.put (i - w) m vs).toL = _
        rw [t, List.take_append, List.take_of_length_le (show l.toL.length ≤ i by omega), List.drop_append, List.drop_eq_nil_of_le (show l.toL.length ≤ i + m by omega), e, show i + m - w = i - w + m by omega]
        simp
      · simp only [h2, decide_false, cond_false]
        rw [ltake_eq, ldrop_eq]
        obtain ⟨o1, t1⟩ := ihl i (w - i) (vs.take (w - i)) (by simp; omega) (by omega)
        obtain ⟨o2, t2⟩ := ihr 0 (i + m - w) (vs.drop (w - i)) (by simp; omega) (by omega)
        refine ⟨.ct o1 o2 (by rw [t1]; simp; omega), ?_⟩
        show (l.put i (w - i) (vs.take (w - i))).toL ++ (r.put 0 (i + m - w) (vs.drop (w - i))).toL = _
        rw [t1, t2, List.take_append_of_le_length (by omega), List.drop_append, List.drop_eq_nil_of_le (show l.toL.length ≤ i + m by omega), List.drop_eq_nil_of_le (show l.toL.length ≤ i + (w - i) by omega), e]
        simp only [List.take_zero, List.nil_append, List.append_nil, Nat.zero_add]
        rw [List.append_assoc, ← List.append_assoc (vs.take (w - i)), List.take_append_drop]

theorem all_ok {p : Value → Bool} : ∀ {r : Rp}, r.all p = true → r.toL.all p = true := by
  intro r
  induction r with
  | lf l => intro h; exact h
  | rp n w r ih =>
    intro h
    have h := ih h
    simp only [toL, List.all_eq_true] at h ⊢
    intro x hx
    have : ∀ n, x ∈ repeatL r.toL n → x ∈ r.toL := by
      intro n
      induction n with
      | zero => intro hx; simp [repeatL] at hx
      | succ n ih => intro hx; simp only [repeatL, List.mem_append] at hx; exact hx.elim id ih
    exact h x (this n hx)
  | ct w l r ihl ihr =>
    intro h
    have h : (l.all p && r.all p) = true := h
    simp only [Bool.and_eq_true] at h
    simp only [toL, List.all_append, Bool.and_eq_true]
    exact ⟨ihl h.1, ihr h.2⟩

theorem ofN_ok : ∀ (d n : Nat) (l : List Value), l.length = n → Ok (ofN d n l) ∧ (ofN d n l).toL = l := by
  intro d
  induction d with
  | zero => intro n l h; exact ⟨.lf l, rfl⟩
  | succ d ih =>
    intro n l h
    show Ok (bif Nat.ble n 24 then .lf l else .ct (n / 2) (ofN d (n / 2) (ltake l (n / 2))) (ofN d (n - n / 2) (ldrop l (n / 2)))) ∧
      (bif Nat.ble n 24 then Rp.lf l else .ct (n / 2) (ofN d (n / 2) (ltake l (n / 2))) (ofN d (n - n / 2) (ldrop l (n / 2)))).toL = l
    cases Nat.ble n 24 with
    | true => exact ⟨.lf l, rfl⟩
    | false =>
      simp only [cond_false]
      rw [ltake_eq, ldrop_eq]
      obtain ⟨o1, t1⟩ := ih (n / 2) (l.take (n / 2)) (by simp; omega)
      obtain ⟨o2, t2⟩ := ih (n - n / 2) (l.drop (n / 2)) (by simp; omega)
      refine ⟨.ct o1 o2 (by rw [t1]; simp; omega), ?_⟩
      show (ofN d (n / 2) (l.take (n / 2))).toL ++ (ofN d (n - n / 2) (l.drop (n / 2))).toL = l
      rw [t1, t2, List.take_append_drop]
theorem ofL_ok (l : List Value) : Ok (ofL l) ∧ (ofL l).toL = l := ofN_ok 16 _ l (llen_eq l).symm

theorem snoc_ok {vs r : Rp} {m : Nat} (hv : Ok vs) (hr : Ok r) : ∀ w, r.toL.length = w → Ok (snoc vs m r w) ∧ (snoc vs m r w).toL = r.toL ++ vs.toL := by
  induction hr with
  | lf l =>
    intro w e
    show Ok (bif Nat.ble (w + m) 16 then (Rp.rec (fun l2 => Rp.lf (lapp l l2)) (fun _ _ _ _ => .ct w (.lf l) vs) (fun _ _ _ _ _ => .ct w (.lf l) vs) vs) else .ct w (.lf l) vs) ∧
      (bif Nat.ble (w + m) 16 then (Rp.rec (fun l2 => Rp.lf (lapp l l2)) (fun _ _ _ _ => .ct w (.lf l) vs) (fun _ _ _ _ _ => .ct w (.lf l) vs) vs) else Rp.ct w (.lf l) vs).toL = _
    cases Nat.ble (w + m) 16 with
    | false => exact ⟨.ct (.lf l) hv e, rfl⟩
    | true =>
      cases vs with
      | lf l2 => exact ⟨.lf _, lapp_eq l l2⟩
      | rp n k r => exact ⟨.ct (.lf l) hv e, rfl⟩
      | ct k a b => exact ⟨.ct (.lf l) hv e, rfl⟩
  | rp h e => intro w e'; exact ⟨.ct (.rp h e) hv e', rfl⟩
  | @ct k l r hl hr e ihl ihr =>
    intro w e'
    show Ok (bif Nat.blt (w - k) k then .ct k l (snoc vs m r (w - k)) else .ct w (.ct k l r) vs) ∧ (bif Nat.blt (w - k) k then Rp.ct k l (snoc vs m r (w - k)) else .ct w (.ct k l r) vs).toL = _
    cases Nat.blt (w - k) k with
    | false => exact ⟨.ct (.ct hl hr e) hv e', rfl⟩
    | true =>
      obtain ⟨o, t⟩ := ihr (w - k) (by simp only [toL, List.length_append] at e'; omega)
      refine ⟨.ct hl o e, ?_⟩
      show l.toL ++ (snoc vs m r (w - k)).toL = (l.toL ++ r.toL) ++ vs.toL
      rw [t, List.append_assoc]
end Rp

/-! Numbers. -/
theorem eqK_eq {a b : IntKind} (h : eqK a b = true) : a = b := by cases a <;> cases b <;> first | rfl | cases h
theorem ltI_eq (a b : Int) : ltI a b = decide (a < b) := by
  cases a <;> cases b <;> simp only [ltI, blt_lt] <;> congr 1 <;> simp <;> omega
theorem eqI_eq (a b : Int) : eqI a b = (a == b) := by
  cases a <;> cases b <;> simp only [eqI, beq_eq'] <;> rw [Bool.eq_iff_iff] <;> simp <;> omega
theorem pow63 : (2 : Int) ^ 63 = 9223372036854775808 := by decide
theorem pow64 : (2 : Int) ^ 64 = 18446744073709551616 := by decide
theorem pow32 : (2 : Int) ^ 32 = 4294967296 := by decide
theorem pow16 : (2 : Int) ^ 16 = 65536 := by decide
theorem pow8 : (2 : Int) ^ 8 = 256 := by decide
theorem wrap_u {k : IntKind} (h : k.signed = false) (n : Int) : k.wrap n = n % (2 ^ k.bits : Int) := by
  unfold IntKind.wrap
  rw [h]; rfl
theorem wrap_i64 (n : Int) : IntKind.wrap .i64 n = if 9223372036854775808 ≤ n % 18446744073709551616 then n % 18446744073709551616 - 18446744073709551616 else n % 18446744073709551616 := by
  unfold IntKind.wrap
  simp only [IntKind.bits, IntKind.signed, Bool.true_and, pow64, show (64 - 1 : Nat) = 63 from rfl, pow63, ge_iff_le, decide_eq_true_eq]
theorem wrap_in (m : Nat) (h : m < 9223372036854775808) : IntKind.wrap .i64 (Int.ofNat m) = Int.ofNat m := by
  rw [wrap_i64, Int.ofNat_eq_natCast, if_neg (by omega)]; omega
theorem wrap_in' (m : Nat) (h : m < 9223372036854775808) : IntKind.wrap .i64 (Int.negSucc m) = Int.negSucc m := by
  rw [wrap_i64, if_pos (by omega)]; omega
theorem cond_same {α : Type} (b : Bool) {x y : α} (h : b = true → x = y) : (bif b then x else y) = y := by
  cases b with
  | true => exact h rfl
  | false => rfl
theorem wrapI_i64 (n : Int) : wrapI .i64 n = IntKind.wrap .i64 n := by
  cases n with
  | ofNat m => exact cond_same _ fun h => (wrap_in m (by simpa [Nat.blt_eq] using h)).symm
  | negSucc m => exact cond_same _ fun h => (wrap_in' m (by simpa [Nat.blt_eq] using h)).symm
theorem wrapI_u64 (m : Nat) : wrapI .u64 (Int.ofNat m) = IntKind.wrap .u64 (Int.ofNat m) := by
  rw [wrap_u rfl]; show ((m % 18446744073709551616 : Nat) : Int) = (m : Int) % (2 ^ 64); rw [pow64]; omega
theorem wrapI_u32 (m : Nat) : wrapI .u32 (Int.ofNat m) = IntKind.wrap .u32 (Int.ofNat m) := by
  rw [wrap_u rfl]; show ((m % 4294967296 : Nat) : Int) = (m : Int) % (2 ^ 32); rw [pow32]; omega
theorem wrapI_u16 (m : Nat) : wrapI .u16 (Int.ofNat m) = IntKind.wrap .u16 (Int.ofNat m) := by
  rw [wrap_u rfl]; show ((m % 65536 : Nat) : Int) = (m : Int) % (2 ^ 16); rw [pow16]; omega
theorem wrapI_u8 (m : Nat) : wrapI .u8 (Int.ofNat m) = IntKind.wrap .u8 (Int.ofNat m) := by
  rw [wrap_u rfl]; show ((m % 256 : Nat) : Int) = (m : Int) % (2 ^ 8); rw [pow8]; omega
theorem wrapI_eq (k : IntKind) (n : Int) : wrapI k n = k.wrap n := by
  cases k
  case i64 => exact wrapI_i64 n
  case u64 => cases n with
    | ofNat m => exact wrapI_u64 m
    | negSucc m => rfl
  case u32 => cases n with
    | ofNat m => exact wrapI_u32 m
    | negSucc m => rfl
  case u16 => cases n with
    | ofNat m => exact wrapI_u16 m
    | negSucc m => rfl
  case u8 => cases n with
    | ofNat m => exact wrapI_u8 m
    | negSucc m => rfl
  all_goals rfl
end Go.Am
