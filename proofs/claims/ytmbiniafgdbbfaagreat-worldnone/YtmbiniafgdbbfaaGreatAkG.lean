/- The fast machine: its operations are the abstract machine's, part two: slices, maps, conversions. -/
import Derived.Test.YtmbiniafgdbbfaaGreatAkF
set_option linter.unusedSimpArgs false
set_option linter.unusedVariables false
set_option linter.unusedVariables false
namespace Go.Am

section
variable {C : Cy} {nt : Nat}

theorem grown2_ok {H : H2} {G : Hp} {s need n : Nat} {r : Rp} (hr : r.Ok) (hl : r.toL.length = n) (hH : HR H G) {v : Value} {H' : H2} (h : grown2 H s need n r = some (v, H')) : ∃ G', grown G s need r.toL = some (v, G') ∧ HR H' G' := by
  obtain ⟨H1, G1, hk, ha, hR⟩ := hH.alloc h (.row hr hl)
  simp only [Option.some.injEq, Prod.mk.injEq] at hk
  obtain ⟨rfl, rfl⟩ := hk
  exact ⟨G1, by simp only [grown, ha, Option.map_some], hR⟩

theorem subR_ok {r r' : Rp} {len i n : Nat} (hr : r.Ok) (hl : r.toL.length = len) (h : subR r len i n = some r') : r'.Ok ∧ cut r.toL i n = some r'.toL ∧ r'.toL.length = n := by
  unfold subR at h
  obtain ⟨hle, h⟩ := bif_some h
  have hle : i + n ≤ r.toL.length := by rw [hl]; exact le_of hle
  rw [cut_t hle]
  cases hc : (Nat.beq i 0 && Nat.beq n len) with
  | true =>
    rw [hc] at h; cases h
    simp only [Bool.and_eq_true] at hc
    have h0 := eq_of hc.1
    have h1 := eq_of hc.2
    subst h0 h1
    exact ⟨hr, by simp [← hl], hl⟩
  | false =>
    rw [hc] at h; cases h
    obtain ⟨a, b⟩ := Rp.ofL_ok (r.cutA i n [])
    refine ⟨a, by rw [b, Rp.cutA_ok hr _ _ _ hle, List.append_nil], ?_⟩
    rw [b, Rp.cutA_ok hr _ _ _ hle, List.append_nil]
    simp; omega

theorem bytesV_eq (bs : List UInt8) : bytesV bs = bs.map fun b => Value.int .u8 b.toNat := by
  induction bs with
  | nil => rfl
  | cons b bs ih => show Value.int .u8 (.ofNat b.toNat) :: bytesV bs = _; rw [ih]; rfl
theorem len2_eq (x : Value) : len2 x = lenA x := by cases x <;> first | rfl | (simp only [len2, lenA, llen_eq])

theorem first2_ok {H : H2} {G : Hp} (hH : HR H G) {s n : Nat} {x : Value} {r : Rp} (h : first2 C H s n x = some r) (hn : ∀ k, lenA x = some k → n ≤ k) : r.Ok ∧ firstA C.X G s n x = some r.toL ∧ r.toL.length = n * s := by
  unfold first2 at h
  split at h
  · obtain ⟨len, r0, h, hr, hl, hro⟩ := rowAt2_some hH h
    obtain ⟨a, b, c⟩ := subR_ok hr hl h
    exact ⟨a, by simp only [firstA, hro, Option.bind_some]; exact b, c⟩
  · rename_i p
    cases hp : Nat.beq p 0 with
    | true =>
      rw [hp] at h
      simp only [cond_true] at h
      obtain ⟨len, r0, h, hr, hl, hro⟩ := rowAt2_some hH h
      obtain ⟨a, b, c⟩ := subR_ok hr hl h
      exact ⟨a, by simp only [firstA, hp, cond_true, hro, Option.bind_some]; exact b, c⟩
    | false =>
      rw [hp] at h
      obtain ⟨h0, h⟩ := bif_some h
      cases h
      exact ⟨.lf _, by simp only [firstA, hp, cond_false]; rw [show Nat.beq (n * s) 0 = true from h0]; rfl, (eq_of h0).symm⟩
  · obtain ⟨h0, h⟩ := bif_some h
    cases h
    exact ⟨.lf _, by simp only [firstA]; rw [show Nat.beq (n * s) 0 = true from h0]; rfl, (eq_of h0).symm⟩
  · rename_i t
    obtain ⟨h0, h⟩ := bif_some h
    cases h
    obtain ⟨a, b⟩ := Rp.ofL_ok (bytesV (ltake t.data.toList n))
    refine ⟨a, ?_, ?_⟩
    · rw [b, bytesV_eq, ltake_eq]; rfl
    · rw [b, bytesV_eq, ltake_eq, eq_of h0]
      have := hn _ rfl
      simp only [List.length_map, List.length_take, Nat.mul_one]
      omega
  · cases h

theorem within2_ok {H : H2} {G : Hp} (hH : HR H G) {size : Nat} {b : Option Addr} {len cap : Nat} (h : within2 H size b len cap = true) : within G size b len cap = true := by
  unfold within2 at h
  split at h
  · exact h
  · exact h
  · rename_i b off s
    cases hp : Nat.beq cap 0 with
    | true =>
      rw [hp] at h
      simp only [cond_true] at h
      split at h
      · rename_i n hn
        obtain ⟨len', r, h', hr, hl, hlt, hg, how, _⟩ := ownRow2_some hH hn
        cases h'
        simp only [within, hp, cond_true, how, hl]
        exact h
      · cases h
    | false =>
      rw [hp] at h
      simp only [within, hp, cond_false]
      exact h

theorem newCells2_ok {H : H2} {G : Hp} (hH : HR H G) {e xt : TypeId} {i : TypeInfo} {z : Nat × Rp} {zv : Value} (hz : zeroOf C.X e = some zv) (hz1 : zv.cells.toList = z.2.toL) (hz2 : z.2.toL.length = z.1) (hz3 : z.2.Ok) (hzs : z.1 = i.size)
    {x : Value} {nn : Nat × Rp} (h : newCells2 C H xt i.size z x = some nn) : nn.2.Ok ∧ newCells C.X G e xt i x = some (nn.1, nn.2.toL) ∧ nn.2.toL.length = nn.1 * i.size := by
  unfold newCells2 at h
  split at h
  · rename_i hu
    obtain ⟨k, n, hx, h⟩ := natK_some h
    obtain ⟨hle, h⟩ := bif_some h
    cases h
    refine ⟨.rp hz3 hz2, ?_, ?_⟩
    · subst hx
      have hsz : zv.cells.size = i.size := by rw [← Array.length_toList, hz1, hz2, hzs]
      simp only [newCells, hu, hz, Option.bind_some, natOf, hle, hsz, beq_t, Bool.and_self, cond_true, hz1]
      rfl
    · show (repeatL z.2.toL n).length = _
      rw [repeatL_length, hz2, hzs]
  · rename_i hu
    obtain ⟨n, hn, h⟩ := someK_some h
    obtain ⟨r, hr, h⟩ := someK_some h
    cases h
    rw [len2_eq] at hn
    obtain ⟨a, b, c⟩ := first2_ok hH hr (fun k hk => by rw [hn] at hk; cases hk; exact Nat.le_refl _)
    exact ⟨a, by simp only [newCells, hu, hn, Option.bind_some, b, Option.map_some], c⟩
  · rename_i hu
    obtain ⟨n, hn, h⟩ := someK_some h
    obtain ⟨r, hr, h⟩ := someK_some h
    cases h
    rw [len2_eq] at hn
    obtain ⟨a, b, c⟩ := first2_ok hH hr (fun k hk => by rw [hn] at hk; cases hk; exact Nat.le_refl _)
    exact ⟨a, by simp only [newCells, hu, hn, Option.bind_some, b, Option.map_some], c⟩
  · cases h

/-- Cells put into a row that was there. -/
theorem putRow_ok {H : H2} {G : Hp} (hH : HR H G) {b rl i m : Nat} {r new : Rp} (hr : r.Ok) (hl : r.toL.length = rl) (hb : b < 262144) (hn : new.Ok) (hm : new.toL.length = m) (hle : Nat.ble (Nat.add i m) rl = true) :
    splice r.toL i new.toL = some (r.put i m (new.cutA 0 m [])).toL ∧ HR (H.set b (.row rl (r.put i m (new.cutA 0 m [])))) (G.set b (.row (r.put i m (new.cutA 0 m [])).toL)) := by
  have hle : i + m ≤ r.toL.length := by rw [hl]; exact le_of hle
  have hc : new.cutA 0 m [] = new.toL := by rw [Rp.cutA_ok hn _ _ _ (by omega)]; simp [← hm]
  rw [hc]
  obtain ⟨ok, tl⟩ := Rp.put_ok hr i m new.toL hm hle
  refine ⟨?_, hH.set hb (.row ok (by rw [tl]; simp; omega))⟩
  rw [splice_t (by omega), tl, hm]

theorem append2_ok {H : H2} {G : Hp} (hH : HR H G) {size bytes : Nat} {base : Option Addr} {len cap n : Nat} {new : Rp} (hn : new.Ok) (hm : new.toL.length = n * size) {v : Value} {H' : H2} (h : append2 C H size bytes base len cap n new = some (v, H')) :
    ∃ G', (bif Nat.beq n 0 then (bif within G size base len cap then some (.slice base len cap, G) else none) else
      bif Nat.blt 0 size && Nat.ble ((len + n) * (bytes + 1)) 1099511627776 && new.toL.all oneCell then
        match base with
        | none => bif Nat.beq len 0 && Nat.beq cap 0 then grown G size n new.toL else none
        | some ⟨b, off, none⟩ =>
          bif Nat.ble (len + n) cap then (ownRow G b).bind fun cs => (splice cs (off + len * size) new.toL).map fun l => (.slice (some ⟨b, off, none⟩) (len + n) cap, G.set b (.row l))
          else (rowAt C.X G b).bind fun cs => (cut cs off (len * size)).bind fun old => grown G size (len + n) (old ++ new.toL)
        | some ⟨b, off, some s'⟩ => bif Nat.beq s' size && Nat.beq cap 0 then (ownRow G b).bind fun cs => (cut cs off (len * size)).bind fun old =>
            match splice cs (off + len * size) new.toL with
            | some l => some (.slice (some ⟨b, off, some s'⟩) (len + n) 0, G.set b (.row l))
            | none => grown (G.kill b) size (len + n) (old ++ new.toL)
          else none
      else none : Option (Value × Hp)) = some (v, G') ∧ HR H' G' := by
  unfold append2 at h
  cases h0 : Nat.beq n 0 with
  | true =>
    rw [h0] at h
    simp only [cond_true] at h ⊢
    obtain ⟨hw, h⟩ := bif_some h
    cases h
    exact ⟨G, by rw [within2_ok hH hw]; rfl, hH⟩
  | false =>
    rw [h0] at h
    simp only [cond_false] at h ⊢
    obtain ⟨hg, h⟩ := bif_some h
    have hg' : (Nat.blt 0 size && Nat.ble ((len + n) * (bytes + 1)) 1099511627776 && new.toL.all oneCell) = true := by
      simp only [Bool.and_eq_true] at hg ⊢
      refine ⟨hg.1, ?_⟩
      rw [← isOne_eq]; exact Rp.all_ok hg.2
    rw [hg']
    simp only [cond_true]
    split at h
    · obtain ⟨hz, h⟩ := bif_some h
      simp only [hz, cond_true]
      exact grown2_ok hn hm hH h
    · rename_i b off _
      cases hc : Nat.ble (Nat.add len n) cap with
      | true =>
        rw [hc] at h
        simp only [cond_true] at h ⊢
        obtain ⟨rl, r, h, hr, hl, hb, hgt, how, _⟩ := ownRow2_some hH h
        obtain ⟨hle, h⟩ := bif_some h
        cases h
        obtain ⟨q1, q2⟩ := putRow_ok (i := off + len * size) (m := n * size) hH hr hl hb hn hm hle
        refine ⟨_, ?_, q2⟩
        simp only [how, Option.bind_some, q1, Option.map_some]
        rfl
      | false =>
        rw [hc] at h
        simp only [cond_false] at h ⊢
        obtain ⟨rl, r, h, hr, hl, hro⟩ := rowAt2_some hH h
        obtain ⟨old, ho, h⟩ := someK_some h
        obtain ⟨oa, ob, oc⟩ := subR_ok hr hl ho
        obtain ⟨sa, sb⟩ := Rp.snoc_ok (m := n * size) hn oa (len * size) oc
        obtain ⟨G', g1, g2⟩ := grown2_ok sa (by rw [sb, List.length_append, oc, hm]; exact (Nat.add_mul len n size).symm) hH h
        refine ⟨G', ?_, g2⟩
        rw [sb] at g1
        simp only [hro, Option.bind_some, show cut r.toL off (len * size) = some old.toL from ob]
        exact g1
    · rename_i b off s' _
      obtain ⟨hc, h⟩ := bif_some h
      simp only [hc, cond_true]
      obtain ⟨rl, r, h, hr, hl, hb, hgt, how, _⟩ := ownRow2_some hH h
      obtain ⟨hle0, h⟩ := bif_some h
      have hle0 : off + len * size ≤ r.toL.length := by rw [hl]; exact le_of hle0
      simp only [how, Option.bind_some, cut_t hle0]
      cases hle : Nat.ble (Nat.add (Nat.add off (Nat.mul len size)) (Nat.mul n size)) rl with
      | true =>
        rw [hle] at h
        cases h
        obtain ⟨q1, q2⟩ := putRow_ok (i := off + len * size) (m := n * size) hH hr hl hb hn hm hle
        refine ⟨_, ?_, q2⟩
        rw [q1]
        rfl
      | false =>
        rw [hle] at h
        obtain ⟨old, ho, h⟩ := someK_some h
        obtain ⟨oa, ob, oc⟩ := subR_ok hr hl ho
        obtain ⟨sa, sb⟩ := Rp.snoc_ok (m := n * size) hn oa (len * size) oc
        obtain ⟨G', g1, g2⟩ := grown2_ok sa (by rw [sb, List.length_append, oc, hm]; exact (Nat.add_mul len n size).symm) (hH.kill hb) h
        refine ⟨G', ?_, g2⟩
        have hno : splice r.toL (off + len * size) new.toL = none := by
          unfold splice
          rw [hm, hl]
          have : Nat.ble (off + len * size + n * size) rl = false := hle
          rw [this]; rfl
        rw [hno]
        have ob' : cut r.toL off (len * size) = some old.toL := ob
        rw [cut_t hle0] at ob'
        simp only [Option.some.injEq] at ob'
        rw [ob', ← sb]
        exact g1

theorem appendC_ok (hz : ZtOk C) (ts : List TypeId) (args : List Operand) : OpOk nt (appendC C ts (args.map (opG nt))) (fun env1 G => appendA C.X G ts (args.map (opnd env1))) := by
  unfold appendC
  split
  · rename_i st xt s x hargs
    obtain ⟨sO, xO, rfl, rfl, rfl⟩ : ∃ sO xO, args = [sO, xO] ∧ s = opG nt sO ∧ x = opG nt xO := by
      match args, hargs with
      | [a, b], h => simp only [List.map_cons, List.map_nil, List.cons.injEq, and_true] at h; exact ⟨a, b, rfl, h.1.symm, h.2.symm⟩
    split
    · rename_i e hu
      split
      · rename_i i z hi hzr
        obtain ⟨zv, z1, z2, z3, z4⟩ := zeroR_some hz hzr
        cases hb : Nat.beq z.1 i.size with
        | false => exact OpOk.no
        | true =>
          refine OpOk.heap fun env env1 H G v H' hE hH h => ?_
          rw [opG_eq hE, opG_eq hE] at h
          split at h
          · rename_i base len cap hsv
            obtain ⟨nn, hnn, h⟩ := someK_some h
            obtain ⟨a, b, c⟩ := newCells2_ok hH z1 z2 z3 z4 (eq_of hb) hnn
            obtain ⟨G', g1, g2⟩ := append2_ok hH a c h
            refine ⟨G', ?_, g2⟩
            have hsz : zv.cells.size = i.size := by rw [← Array.length_toList, z2, z3]; exact eq_of hb
            simp only [appendA, List.map_cons, List.map_nil, hsv, hu, hi, Option.bind_some, z1, b, c, beq_t, hsz, Bool.and_self, Bool.not_true, cond_false]
            exact g1
          · cases h
      · exact OpOk.no
    · exact OpOk.no
  · exact OpOk.no

theorem args_cons {args : List Operand} {v : G E2 Value} {r : List (G E2 Value)} (h : args.map (opG nt) = v :: r) : ∃ x l, args = x :: l ∧ v = opG nt x ∧ r = l.map (opG nt) := by
  cases args with
  | nil => cases h
  | cons x l => simp only [List.map_cons, List.cons.injEq] at h; exact ⟨x, l, rfl, h.1.symm, h.2.symm⟩
theorem args_nil {args : List Operand} (h : args.map (opG nt) = []) : args = [] := by simpa using h

theorem copyC_ok (ts : List TypeId) (args : List Operand) : OpOk nt (copyC C ts (args.map (opG nt))) (fun env1 G => match ts, args.map (opnd env1) with
    | t :: _, [d, s] => copyA C.X G t d s
    | _, _ => none) := by
  unfold copyC
  split
  · rename_i dt tr d s hargs
    obtain ⟨dO, l, rfl, rfl, hl⟩ := args_cons hargs
    obtain ⟨sO, l, rfl, rfl, hl2⟩ := args_cons hl.symm
    cases args_nil hl2.symm
    split
    · rename_i e hu
      split
      · rename_i size hs
        refine OpOk.heap fun env env1 H G v H' hE hH h => ?_
        rw [opG_eq hE, opG_eq hE] at h
        split at h
        · rename_i base len cap hd
          obtain ⟨k, hk, h⟩ := someK_some h
          rw [len2_eq] at hk
          have hmin : (bif Nat.ble k len then k else len) = Nat.min k len := by
            rw [ble_le]
            by_cases hkl : k ≤ len
            · rw [decide_eq_true hkl]; exact (Nat.min_eq_left hkl).symm
            · rw [decide_eq_false hkl]; exact (Nat.min_eq_right (Nat.le_of_not_le hkl)).symm
          simp only [hmin] at h
          simp only [List.map_cons, List.map_nil, copyA, hu, hd, hs, Option.bind_some, hk]
          cases h0 : Nat.beq (Nat.min k len) 0 with
          | true =>
            rw [h0] at h; cases h
            exact ⟨G, rfl, hH⟩
          | false =>
            rw [h0] at h
            simp only [cond_false] at h ⊢
            obtain ⟨cs, hcs, h⟩ := someK_some h
            obtain ⟨a, b, c⟩ := first2_ok hH hcs (fun k' hk' => by rw [hk] at hk'; cases hk'; exact Nat.min_le_left _ _)
            simp only [b, Option.bind_some]
            split at h
            · rename_i b' off sp
              obtain ⟨hall, h⟩ := bif_some h
              obtain ⟨rl, r, h, hr, hl, hb, hgt, how, _⟩ := ownRow2_some hH h
              obtain ⟨hle, h⟩ := bif_some h
              cases h
              obtain ⟨q1, q2⟩ := putRow_ok hH hr hl hb a c hle
              have hall' : cs.toL.all oneCell = true := by rw [← isOne_eq]; exact Rp.all_ok hall
              refine ⟨_, ?_, q2⟩
              simp only [hall', cond_true, how, Option.bind_some, q1, Option.map_some]
              rfl
            · cases h
        · cases h
      · exact OpOk.no
    · exact OpOk.no
  · exact OpOk.no

theorem lenC_ok (ts : List TypeId) (args : List Operand) : OpOk nt (lenC C ts (args.map (opG nt))) (fun env1 G => match ts, args.map (opnd env1) with
    | t :: _, v :: _ => (lenOpA C.X G t v).map fun v => (v, G)
    | _, _ => none) := by
  unfold lenC
  split
  · rename_i t tr v r hargs
    obtain ⟨vO, l, rfl, rfl, hl⟩ := args_cons hargs
    split
    · rename_i hu
      refine OpOk.pure fun env env1 G v hE h => ?_
      rw [opG_eq hE] at h
      split at h
      · rename_i s hs
        cases h
        simp only [List.map_cons, lenOpA, hu, hs, Option.map_some, llen_eq]; rfl
      · cases h
    · rename_i n e hu
      refine OpOk.pure fun env env1 G v hE h => ?_
      cases h
      simp only [List.map_cons, lenOpA, hu, Option.map_some]; rfl
    · rename_i a hu
      split
      · rename_i n e hu2
        refine OpOk.pure fun env env1 G v hE h => ?_
        cases h
        simp only [List.map_cons, lenOpA, hu, hu2, Option.map_some]; rfl
      · exact OpOk.no
    · rename_i e hu
      refine OpOk.pure fun env env1 G v hE h => ?_
      rw [opG_eq hE] at h
      split at h
      · rename_i s hs
        cases h
        simp only [List.map_cons, lenOpA, hu, hs, Option.map_some]; rfl
      · cases h
    · rename_i k e hu
      refine OpOk.read fun env env1 H G v hE hH h => ?_
      rw [opG_eq hE] at h
      split at h
      · rename_i hs
        cases h
        simp only [List.map_cons, lenOpA, hu, hs, Option.map_some]; rfl
      · rename_i n hs
        obtain ⟨es, c, h, hn, hg⟩ := mapAt2_some hH h
        cases h
        simp only [List.map_cons, lenOpA, hu, hs, hg, Option.map_some, llen_eq]; rfl
      · cases h
    · exact OpOk.no
  · exact OpOk.no

theorem HR.mapSet {H : H2} {G : Hp} (hH : HR H G) {n : Nat} (hn : n < 262144) (es : List MapEntry) (c : Nat) : HR (Am.mapSet H n es c) (G.set n (.map es c)) := hH.set hn (.map es c)

theorem lookupC_ok {m k : G E2 Value} {α β : Env → Value} (hm : GR nt m α) (hk : GR nt k β) (t : TypeId) (ok : Bool) : OpOk nt (lookupC C t m k ok) (fun env1 G => (lookupA C.X G t (α env1) (β env1) ok).map fun v => (v, G)) := by
  obtain ⟨mf⟩ := m
  obtain ⟨kf⟩ := k
  unfold lookupC
  simp only
  split
  · rename_i kt et h1 h2
    refine OpOk.read fun env env1 H G v hE hH h => ?_
    rw [show mf env = α env1 from hm _ _ hE, show kf env = β env1 from hk _ _ hE] at h
    obtain ⟨es, hes, h⟩ := someK_some h
    have hmap : mapAt G (α env1) = some es := by
      split at hes
      · rename_i hv; cases hes; simp only [mapAt, hv]
      · rename_i n hv
        obtain ⟨es', c, h', hn, hg⟩ := mapAt2_some hH hes
        cases h'
        simp only [mapAt, hv, hg]
      · cases hes
    obtain ⟨hc, h⟩ := bif_some h
    simp only [lookupA, h1, h2, Option.bind_some, hmap, hc, cond_true]
    obtain ⟨o, ho, h⟩ := someK_some h
    simp only [ho, Option.bind_some]
    cases o with
    | some p => cases h; rfl
    | none =>
      obtain ⟨z, hz, h⟩ := someK_some h
      cases h
      simp only [hz, Option.map_some]
  · exact OpOk.no

theorem mapUpdate2_ok {H : H2} {G : Hp} (hH : HR H G) {t kt : TypeId} (hk : keyOf C.X t = some kt) {m k v w : Value} {H' : H2} (h : mapUpdate2 C kt H m k v = some (w, H')) : ∃ G', (mapUpdateA C.X G t m k v).map (fun G => (undef, G)) = some (w, G') ∧ HR H' G' := by
  unfold mapUpdate2 at h
  split at h
  · rename_i n
    obtain ⟨es, c, h, hn, hg⟩ := mapAt2_some hH h
    obtain ⟨hc, h⟩ := bif_some h
    obtain ⟨o, ho, h⟩ := someK_some h
    simp only [mapUpdateA, hk, Option.bind_some, hg, hc, cond_true, ho]
    cases o with
    | some p =>
      obtain ⟨e, he, h⟩ := someK_some h
      obtain ⟨hs, h⟩ := bif_some h
      cases h
      rw [lget_eq] at he
      simp only [he, Option.bind_some, hs, cond_true, Option.map_some]
      exact ⟨_, rfl, hH.mapSet hn _ _⟩
    | none =>
      cases h
      simp only [Option.map_some, lapp_eq]
      exact ⟨_, rfl, hH.mapSet hn _ _⟩
  · cases h

theorem mapEntry2_ok {H : H2} {G : Hp} (hH : HR H G) {t kt et : TypeId} (hk : keyOf C.X t = some kt) (he : valOf C.X t = some et) {m k w : Value} {H' : H2} (h : mapEntry2 C kt et H m k = some (w, H')) : ∃ G', mapEntryA C.X G t m k = some (w, G') ∧ HR H' G' := by
  unfold mapEntry2 at h
  split at h
  · rename_i n
    obtain ⟨es, c, h, hn, hg⟩ := mapAt2_some hH h
    obtain ⟨hc, h⟩ := bif_some h
    obtain ⟨o, ho, h⟩ := someK_some h
    simp only [mapEntryA, hk, he, Option.bind_some, hg, hc, cond_true, ho]
    cases o with
    | some p =>
      obtain ⟨e, he, h⟩ := someK_some h
      obtain ⟨hs, h⟩ := bif_some h
      cases h
      rw [lget_eq] at he
      simp only [he, Option.bind_some, hs, cond_true]
      exact ⟨_, rfl, hH.mapSet hn _ _⟩
    | none =>
      obtain ⟨z, hz, h⟩ := someK_some h
      cases h
      simp only [hz, Option.map_some, lapp_eq]
      exact ⟨_, rfl, hH.mapSet hn _ _⟩
  · cases h

theorem entryStore2_ok {H : H2} {G : Hp} (hH : HR H G) {m s v w : Value} {H' : H2} (h : entryStore2 H m s v = some (w, H')) : ∃ G', (entryStoreA G m s v).map (fun G => (undef, G)) = some (w, G') ∧ HR H' G' := by
  unfold entryStore2 at h
  split at h
  · rename_i n kk ss
    obtain ⟨es, c, h, hn, hg⟩ := mapAt2_some hH h
    obtain ⟨i, hi, h⟩ := someK_some h
    cases h
    simp only [entryStoreA, hg, hi, Option.map_some]
    exact ⟨_, rfl, hH.mapSet hn _ _⟩
  · cases h

theorem deleteC_ok (ts : List TypeId) (args : List Operand) : OpOk nt (deleteC C ts (args.map (opG nt))) (fun env1 G => match ts, args.map (opnd env1) with
    | t :: _, [m, k] => (deleteA C.X G t m k).map fun H => (.tuple #[], H)
    | _, _ => none) := by
  unfold deleteC
  split
  · rename_i t tr m k hargs
    obtain ⟨mO, l, rfl, rfl, hl⟩ := args_cons hargs
    obtain ⟨kO, l, rfl, rfl, hl2⟩ := args_cons hl.symm
    cases args_nil hl2.symm
    split
    · rename_i kt hkt
      refine OpOk.heap fun env env1 H G v H' hE hH h => ?_
      rw [opG_eq hE, opG_eq hE] at h
      unfold delete2 at h
      obtain ⟨hc, h⟩ := bif_some h
      simp only [List.map_cons, List.map_nil, deleteA, hkt, Option.bind_some, hc, cond_true]
      split at h
      · rename_i hv
        cases h
        simp only [hv, Option.map_some]
        exact ⟨_, rfl, hH⟩
      · rename_i n hv
        obtain ⟨es, c, h, hn, hg⟩ := mapAt2_some hH h
        obtain ⟨o, ho, h⟩ := someK_some h
        simp only [hv, hg, ho, Option.map_some]
        cases o with
        | some p => cases h; exact ⟨_, rfl, hH.mapSet hn _ _⟩
        | none => cases h; exact ⟨_, rfl, hH.mapSet hn _ _⟩
      · cases h
    · exact OpOk.no
  · exact OpOk.no

theorem range2_ok {H : H2} {G : Hp} (hH : HR H G) {t : TypeId} {x w : Value} {H' : H2} (h : range2 C H t x = some (w, H')) : ∃ G', rangeA C.X G t x = some (w, G') ∧ HR H' G' := by
  unfold range2 at h
  obtain ⟨o, ho, h⟩ := someK_some h
  have hgo : ∀ p, OR (some o) (some p) → (∃ G', (G.alloc p).map (fun x : Nat × Hp => (Value.pointer (some ⟨x.1, 0, none⟩), x.2)) = some (w, G') ∧ HR H' G') := fun p hp => by
    obtain ⟨H1, G1, hk, ha, hR⟩ := hH.alloc h hp
    cases hk
    exact ⟨G1, by simp only [ha, Option.map_some], hR⟩
  split at ho
  · rename_i hu
    cases ho
    obtain ⟨G', g1, g2⟩ := hgo _ (.iter _ _ _ _)
    exact ⟨G', by simp only [rangeA, hu, Option.bind_some]; exact g1, g2⟩
  · rename_i m hu
    obtain ⟨es, c, ho, hn, hg⟩ := mapAt2_some hH ho
    cases ho
    obtain ⟨G', g1, g2⟩ := hgo _ (.iter _ _ _ _)
    exact ⟨G', by simp only [rangeA, hu, hg, Option.bind_some]; exact g1, g2⟩
  · rename_i s hu
    cases ho
    obtain ⟨G', g1, g2⟩ := hgo _ (.sit _ _)
    exact ⟨G', by simp only [rangeA, hu, Option.bind_some]; exact g1, g2⟩
  · cases ho

theorem OR.iter_inv {m : Option Nat} {since : Nat} {seen : List Nat} {st : Nat} {p : Option Ob} (h : OR (some (.iter m since seen st)) p) : p = some (.iter m since seen st) := by cases h; rfl
theorem OR.sit_inv {s : ByteArray} {pos : Nat} {p : Option Ob} (h : OR (some (.sit s pos)) p) : p = some (.sit s pos) := by cases h; rfl

theorem next2_ok {H : H2} {G : Hp} (hH : HR H G) {it w : Value} {st : Bool} {H' : H2} (h : next2 H it st = some (w, H')) : ∃ G', nextA G it st = some (w, G') ∧ HR H' G' := by
  unfold next2 at h
  split at h
  · rename_i r
    have ho := hH.obs r
    split at h
    · rename_i hg
      rw [hg] at ho; have ho := ho.iter_inv
      cases h
      exact ⟨G, by simp only [nextA, ho], hH⟩
    · rename_i m since seen last hg
      have hr := H2.get_lt hg
      rw [hg] at ho; have ho := ho.iter_inv
      obtain ⟨es, c, h, hn, hm⟩ := mapAt2_some hH h
      simp only [nextA, ho, hm]
      cases hb : (!seen.isEmpty && !es.isEmpty && es.all fun x => decide (x.born ≥ last)) with
      | true => rw [hb] at h; cases h
      | false =>
        rw [hb] at h
        simp only [cond_false] at h ⊢
        split at h
        · rename_i e he
          cases h
          simp only [he]
          exact ⟨_, rfl, hH.set hr (.iter _ _ _ _)⟩
        · rename_i he
          cases h
          simp only [he]
          exact ⟨_, rfl, hH⟩
        · cases h
    · rename_i s pos hg
      have hr := H2.get_lt hg
      rw [hg] at ho; have ho := ho.sit_inv
      simp only [nextA, ho]
      cases hb : Nat.blt pos s.size with
      | true =>
        rw [hb] at h
        cases h
        exact ⟨_, rfl, hH.set hr (.sit _ _)⟩
      | false =>
        rw [hb] at h
        cases h
        exact ⟨_, rfl, hH⟩
    · cases h
  · cases h

theorem entry2_ok {H : H2} {G : Hp} (hH : HR H G) {it w : Value} (h : entry2 H it = some w) : entryA G it = some w := by
  unfold entry2 at h
  split at h
  · rename_i r
    have ho := hH.obs r
    split at h
    · rename_i m since seen st hg
      rw [hg] at ho; have ho := ho.iter_inv
      obtain ⟨es, c, h, hn, hm⟩ := mapAt2_some hH h
      obtain ⟨stamp, hs, h⟩ := someK_some h
      obtain ⟨hc, h⟩ := bif_some h
      obtain ⟨e, he, h⟩ := someK_some h
      cases h
      simp only [entryA, ho, hm, hs, hc, cond_true, he, Option.map_some]
    · cases h
  · cases h

theorem makeSliceC_ok (hz : ZtOk C) {l c : G E2 Value} {α β : Env → Value} (hl : GR nt l α) (hc : GR nt c β) (t : TypeId) : OpOk nt (makeSliceC C t l c) (fun env1 G => makeSliceA C.X G t (α env1) (β env1)) := by
  obtain ⟨lf⟩ := l
  obtain ⟨cf⟩ := c
  unfold makeSliceC
  simp only
  split
  · rename_i e hu
    split
    · rename_i i z hi hzr
      obtain ⟨zv, z1, z2, z3, z4⟩ := zeroR_some hz hzr
      cases hb : Nat.beq z.1 i.size with
      | false => exact OpOk.no
      | true =>
        refine OpOk.heap fun env env1 H G v H' hE hH h => ?_
        rw [show lf env = α env1 from hl _ _ hE, show cf env = β env1 from hc _ _ hE] at h
        obtain ⟨k1, n, e1, h⟩ := natK_some h
        obtain ⟨k2, m, e2, h⟩ := natK_some h
        obtain ⟨hg, h⟩ := bif_some h
        have hlen : (Rp.rp m z.1 z.2).toL.length = m * z.1 := by show (repeatL z.2.toL m).length = _; rw [repeatL_length, z3]
        obtain ⟨H1, G1, hk, ha, hR⟩ := hH.alloc h (.row (Rp.Ok.rp z4 z3) hlen)
        cases hk
        refine ⟨G1, ?_, hR⟩
        have hsz : zv.cells.size = i.size := by rw [← Array.length_toList, z2, z3]; exact eq_of hb
        simp only [Bool.and_eq_true] at hg
        simp only [makeSliceA, hu, hi, z1, Option.bind_some, e1, e2, natOf, hsz, beq_t, Bool.and_true]
        rw [show Nat.ble n m = true from hg.1.1, show Nat.ble (m * i.bytes) 1099511627776 = true from hg.1.2, show Nat.ble m 1099511627776 = true from hg.2]
        have ha' : G.alloc (.row (repeatL zv.cells.toList m)) = some (H.next, G1) := by rw [z2]; exact ha
        simp only [Bool.and_self, cond_true, ha', Option.map_some]
    · exact OpOk.no
  · exact OpOk.no

theorem clearC_ok (hz : ZtOk C) (ts : List TypeId) (args : List Operand) : OpOk nt (clearC C ts (args.map (opG nt))) (fun env1 G => match ts, args.map (opnd env1) with
    | t :: _, [x] => (clearA C.X G t x).map fun H => (.tuple #[], H)
    | _, _ => none) := by
  unfold clearC
  split
  · rename_i t tr x hargs
    obtain ⟨xO, l, rfl, rfl, hl⟩ := args_cons hargs
    cases args_nil hl.symm
    split
    · rename_i e hu
      split
      · rename_i z hzr
        obtain ⟨zv, z1, z2, z3, z4⟩ := zeroR_some hz hzr
        refine OpOk.heap fun env env1 H G v H' hE hH h => ?_
        rw [opG_eq hE] at h
        split at h
        · rename_i hx
          cases h
          simp only [List.map_cons, List.map_nil, clearA, hu, hx, Option.map_some]
          exact ⟨_, rfl, hH⟩
        · rename_i b off sp len cap hx
          simp only [List.map_cons, List.map_nil, clearA, hu, hx]
          cases h0 : Nat.beq len 0 with
          | true => rw [h0] at h; cases h; exact ⟨_, rfl, hH⟩
          | false =>
            rw [h0] at h
            simp only [cond_false] at h ⊢
            obtain ⟨rl, r, h, hr, hl, hb, hgt, how, _⟩ := ownRow2_some hH h
            obtain ⟨hc, h⟩ := bif_some h
            simp only [Bool.and_eq_true] at hc
            cases h
            have hlen : (Rp.rp len z.1 z.2).toL.length = len * z.1 := by show (repeatL z.2.toL len).length = _; rw [repeatL_length, z3]
            obtain ⟨q1, q2⟩ := putRow_ok hH hr hl hb (Rp.Ok.rp z4 z3) hlen hc.2
            have hall : zv.cells.toList.all oneCell = true := by rw [z2, ← isOne_eq]; exact Rp.all_ok hc.1
            refine ⟨_, ?_, q2⟩
            simp only [z1, Option.bind_some, how, hall, cond_true]
            rw [z2]
            rw [show splice r.toL off (repeatL z.2.toL len) = _ from q1]
            rfl
        · cases h
      · exact OpOk.no
    · rename_i ke e hu
      refine OpOk.heap fun env env1 H G v H' hE hH h => ?_
      rw [opG_eq hE] at h
      split at h
      · rename_i hx
        cases h
        simp only [List.map_cons, List.map_nil, clearA, hu, hx, Option.map_some]
        exact ⟨_, rfl, hH⟩
      · rename_i n hx
        obtain ⟨es, c, h, hn, hg⟩ := mapAt2_some hH h
        cases h
        simp only [List.map_cons, List.map_nil, clearA, hu, hx, hg, Option.map_some]
        exact ⟨_, rfl, hH.mapSet hn _ _⟩
      · cases h
    · exact OpOk.no
  · exact OpOk.no

theorem minMax_congr {f g : Int → Int → Bool} (h : ∀ x y, f x y = g x y) : minMax f = minMax g := by
  have : f = g := by funext x y; exact h x y
  rw [this]

theorem builtinC_ok (hz : ZtOk C) (b : Builtin) (ts : List TypeId) (args : List Operand) : OpOk nt (builtinC C b ts (args.map (opG nt))) (fun env1 G => builtinA C.X G b ts (args.map (opnd env1))) := by
  unfold builtinC
  split
  · exact appendC_ok hz ts args
  · intro env env1 H G v H' hE hH h
    obtain ⟨G', h1, h2⟩ := lenC_ok ts args env env1 H G v H' hE hH h
    refine ⟨G', ?_, h2⟩
    simp only [builtinA]
    simp only at h1
    revert h1
    generalize args.map (opnd env1) = l
    cases ts <;> cases l <;> simp
  · intro env env1 H G v H' hE hH h
    obtain ⟨G', h1, h2⟩ := copyC_ok ts args env env1 H G v H' hE hH h
    refine ⟨G', ?_, h2⟩
    simp only at h1 ⊢
    revert h1
    generalize args.map (opnd env1) = l
    intro h1
    split at h1
    · exact h1
    · cases h1
  · intro env env1 H G v H' hE hH h
    obtain ⟨G', h1, h2⟩ := deleteC_ok ts args env env1 H G v H' hE hH h
    refine ⟨G', ?_, h2⟩
    simp only at h1 ⊢
    revert h1
    generalize args.map (opnd env1) = l
    intro h1
    split at h1
    · exact h1
    · cases h1
  · intro env env1 H G v H' hE hH h
    obtain ⟨G', h1, h2⟩ := clearC_ok hz ts args env env1 H G v H' hE hH h
    refine ⟨G', ?_, h2⟩
    simp only at h1 ⊢
    revert h1
    generalize args.map (opnd env1) = l
    intro h1
    split at h1
    · exact h1
    · cases h1
  · split
    · rename_i t tr v r hargs
      obtain ⟨vO, l, rfl, rfl, hl⟩ := args_cons hargs
      refine OpOk.pure fun env env1 G v hE h => ?_
      rw [opG_eq hE] at h
      simp only [builtinA, List.map_cons, h, Option.map_some]
    · exact OpOk.no
  · split
    · rename_i a r hargs
      obtain ⟨vO, l, rfl, rfl, rfl⟩ := args_cons hargs
      refine OpOk.pure fun env env1 G v hE h => ?_
      rw [opG_eq hE] at h
      split at h
      · rename_i k x hx
        rw [vals_eq hE, minMax_congr (fun x y => ltI_eq y x)] at h
        simp only [builtinA, List.map_cons, hx, h, Option.map_some]
      · cases h
    · exact OpOk.no
  · split
    · rename_i a r hargs
      obtain ⟨vO, l, rfl, rfl, rfl⟩ := args_cons hargs
      refine OpOk.pure fun env env1 G v hE h => ?_
      rw [opG_eq hE] at h
      split at h
      · rename_i k x hx
        rw [vals_eq hE, minMax_congr (fun x y => ltI_eq x y)] at h
        simp only [builtinA, List.map_cons, hx, gt_iff_lt, h, Option.map_some]
      · cases h
    · exact OpOk.no
  · exact OpOk.no

theorem convertC_ok {x : G E2 Value} {α : Env → Value} (hx : GR nt x α) (s d : TypeId) : OpOk nt (convertC C s d x) (fun env1 G => convertA C.X G s d (α env1)) := by
  obtain ⟨xf⟩ := x
  unfold convertC
  simp only
  split
  · rename_i u k hs hd
    refine OpOk.pure fun env env1 G v hE h => ?_
    rw [show xf env = α env1 from hx _ _ hE] at h
    obtain ⟨i, n, e, h⟩ := intK_some h
    cases h
    simp only [convertA, hs, hd, e, wrapI_eq]
  · rename_i hs hd
    refine OpOk.pure fun env env1 G v hE h => ?_
    rw [show xf env = α env1 from hx _ _ hE] at h
    split at h
    · rename_i t ht; cases h; simp only [convertA, hs, hd, ht]
    · cases h
  · rename_i e hs hd
    split
    · rename_i he
      refine OpOk.heap fun env env1 H G v H' hE hH h => ?_
      rw [show xf env = α env1 from hx _ _ hE] at h
      split at h
      · rename_i t ht
        obtain ⟨a, b⟩ := Rp.ofL_ok (bytesV t.data.toList)
        obtain ⟨G', g1, g2⟩ := grown2_ok a (by rw [b, bytesV_eq, llen_eq]; simp) hH h
        refine ⟨G', ?_, g2⟩
        rw [b, bytesV_eq, llen_eq] at g1
        simp only [convertA, hs, hd, ht, he]
        exact g1
      · cases h
    · exact OpOk.no
  · rename_i e hs hd
    split
    · rename_i he
      refine OpOk.read fun env env1 H G v hE hH h => ?_
      rw [show xf env = α env1 from hx _ _ hE] at h
      split at h
      · rename_i hv; cases h; simp only [convertA, hs, hd, hv, he]
      · rename_i b off sp len cap hv
        obtain ⟨rl, r, h, hr, hl, hro⟩ := rowAt2_some hH h
        obtain ⟨hle, h⟩ := bif_some h
        have hle : off + len ≤ r.toL.length := by rw [hl]; exact le_of hle
        obtain ⟨bs, hbs, h⟩ := someK_some h
        cases h
        rw [Rp.cutA_ok hr _ _ _ hle, List.append_nil] at hbs
        simp only [convertA, hs, hd, hv, he, hro, Option.bind_some, cut_t hle, hbs, Option.map_some]
      · cases h
    · exact OpOk.no
  · exact OpOk.no

theorem sliceA_heap {X : Cx} {G G' : Hp} {t : TypeId} {x : Value} {lo hi mx : Option Value} (h : ∀ n off s len p, x ≠ .slice (some ⟨n, off, some s⟩) len p) : sliceA X G t x lo hi mx = sliceA X G' t x lo hi mx := by
  unfold sliceA
  split
  all_goals first | rfl | (exfalso; exact h _ _ _ _ _ rfl)

theorem slice2_ok {H : H2} {G : Hp} (hH : HR H G) {t : TypeId} {x v : Value} {lo hi mx : Option Value} (h : slice2 C H t x lo hi mx = some v) : sliceA C.X G t x lo hi mx = some v := by
  unfold slice2 at h
  split at h
  · rename_i n off s' len p
    split at h
    · rename_i e hu
      obtain ⟨s, hs, h⟩ := someK_some h
      unfold sliceI at h
      obtain ⟨rl, r, h, hr, hl, hb, hgt, how, _⟩ := ownRow2_some hH h
      obtain ⟨hh, hhi, h⟩ := someK_some h
      obtain ⟨ll, hlo, h⟩ := someK_some h
      obtain ⟨hc, h⟩ := bif_some h
      simp only [sliceA, hu, hs, Option.bind_some, how, hhi, hlo, hc, cond_true, hl]
      split at h
      · rename_i mv
        obtain ⟨k, m, e, h⟩ := natK_some h
        simp only [e, natOf, Option.bind_some]
        exact h
      · exact h
    · cases h
  · rename_i hx
    rw [← h]
    exact sliceA_heap hx

theorem buildSliceC_ok (t : TypeId) (len : Nat) (ps : List (Nat × Operand)) : OpOk nt (buildSliceC C t len (partsG nt ps)) (fun env1 G => buildSliceA C.X G t len (ps.map fun (i, x) => (i, opnd env1 x))) := by
  unfold buildSliceC
  split
  · rename_i e hu
    split
    · rename_i s z hs hz
      cases hc : (Nat.ble (Nat.mul len s) 65536 && Nat.beq (llen (cellsL z)) s) with
      | false => exact OpOk.no
      | true =>
        refine OpOk.heap fun env env1 H G v H' hE hH h => ?_
        obtain ⟨cs, hcs, h⟩ := someK_some h
        rw [parts_eq hE] at hcs
        obtain ⟨a, b⟩ := Rp.ofL_ok cs
        obtain ⟨H1, G1, hk, ha, hR⟩ := hH.alloc h (.row a (by rw [b, llen_eq]))
        cases hk
        refine ⟨G1, ?_, hR⟩
        rw [b] at ha
        rw [llen_eq, cellsL_eq, Array.length_toList] at hc
        rw [cellsL_eq] at hcs
        simp only [buildSliceA, hu, hs, hz, Option.bind_some]
        rw [show (Nat.ble (len * s) 65536 && Nat.beq z.cells.size s) = true from hc]
        simp only [cond_true, hcs, Option.bind_some, ha, Option.map_some]
    · exact OpOk.no
  · exact OpOk.no

theorem extractC_ok {t : G E2 Value} {α : Env → Value} (ht : GR nt t α) (i : Nat) : OpOk nt (extractC t i) (fun env1 G => match α env1 with
    | .tuple vs => (vs.toList[i]?).map fun v => (v, G)
    | _ => none) := by
  obtain ⟨tf⟩ := t
  unfold extractC
  refine OpOk.pure fun env env1 G v hE h => ?_
  rw [show tf env = α env1 from ht _ _ hE] at h
  split at h
  · rename_i vs e
    rw [lget_eq] at h
    simp only [e, h, Option.map_some]
  · cases h

theorem optF_eq {env : E2} {env1 : Env} (hE : ER nt env env1) (o : Option Operand) : optF (o.map (opG nt)) env = o.map (opnd env1) := by
  cases o with
  | none => rfl
  | some x => simp only [Option.map_some, optF, opG_eq hE]

theorem aopC_ok (hz : ZtOk C) (o : Oper) : OpOk nt (aopC C nt o.op) (fun env1 G => aop C.X o (opnd env1) G) := by
  unfold aopC aop
  cases o.op
  case move x => exact OpOk.pure fun env env1 G v hE h => by cases h; simp only [← opG_eq hE x]; rfl
  case assign x => exact OpOk.pure fun env env1 G v hE h => by cases h; simp only [← opG_eq hE x]; rfl
  case pick c a b =>
    refine OpOk.pure fun env env1 G v hE h => ?_
    obtain ⟨t, e, h⟩ := boolK_some h
    rw [opG_eq hE] at e
    rw [opG_eq hE, opG_eq hE] at h
    cases h
    simp only [e]
  case alloc t => exact allocC_ok hz t
  case box t v => exact boxC_ok (opG_gr v)
  case build t ps =>
    refine OpOk.pure fun env env1 G v hE h => ?_
    rw [parts_eq hE] at h
    simp only [h, Option.map_some]
  case buildSlice t len ps => exact buildSliceC_ok t len ps.toList
  case load t a => exact loadC_ok (opG_gr a) t
  case store t a v => exact storeC_ok (opG_gr a) (opG_gr v) t
  case nilCheck x =>
    refine OpOk.pure fun env env1 G v hE h => ?_
    rw [opG_eq hE] at h
    simp only [h, Option.map_some]
  case binOp op t x y yt => exact binC_ok (opG_gr x) (opG_gr y) op t _ _
  case unOp op t x => exact unC_ok (opG_gr x) op
  case convert s d x => exact convertC_ok (opG_gr x) s d
  case makeInterface t x =>
    simp only
    cases hn : notIface C.X t with
    | false => exact OpOk.no
    | true => exact OpOk.pure fun env env1 G v hE h => by rw [opG_eq hE] at h; cases h; rfl
  case makeFunc fn first cap =>
    cases fn with
    | func f => exact OpOk.pure fun env env1 G v hE h => by rw [vals_eq hE, vals_eq hE] at h; cases h; rfl
    | _ => exact OpOk.no
  case makeMap t r =>
    cases r with
    | none =>
      refine OpOk.heap fun env env1 H G v H' hE hH h => ?_
      obtain ⟨H1, G1, hk, ha, hR⟩ := hH.alloc h (.map [] 0)
      cases hk
      exact ⟨G1, by simp only [ha, Option.map_some], hR⟩
    | some x =>
      simp only
      split
      · rename_i k e hu
        refine OpOk.heap fun env env1 H G v H' hE hH h => ?_
        obtain ⟨i, n, e1, h⟩ := intK_some h
        rw [opG_eq hE] at e1
        obtain ⟨H1, G1, hk, ha, hR⟩ := hH.alloc h (.map [] 0)
        cases hk
        exact ⟨G1, by simp only [hu, e1, ha, Option.map_some], hR⟩
      · exact OpOk.no
  case makeSlice t l c => exact makeSliceC_ok hz (opG_gr l) (opG_gr c) t
  case slice t x lo hi mx =>
    refine OpOk.read fun env env1 H G v hE hH h => ?_
    rw [opG_eq hE, optF_eq hE, optF_eq hE, optF_eq hE] at h
    simp only [slice2_ok hH h, Option.map_some]
  case fieldAddr t x f => exact fieldAddrC_ok (opG_gr x) t f
  case field t x f =>
    refine OpOk.pure fun env env1 G v hE h => ?_
    rw [opG_eq hE] at h
    simp only [h, Option.map_some]
  case indexAddr t x i => exact indexAddrC_ok (opG_gr x) (opG_gr i) t
  case index t x i =>
    refine OpOk.pure fun env env1 G v hE h => ?_
    rw [opG_eq hE, opG_eq hE] at h
    simp only [h, Option.map_some]
  case lookup t m k ok => exact lookupC_ok (opG_gr m) (opG_gr k) t ok
  case mapUpdate t m k v =>
    simp only
    split
    · rename_i kt hk
      refine OpOk.heap fun env env1 H G v H' hE hH h => ?_
      rw [opG_eq hE, opG_eq hE, opG_eq hE] at h
      exact mapUpdate2_ok hH hk h
    · exact OpOk.no
  case insert t m k v =>
    simp only
    split
    · rename_i kt hk
      refine OpOk.heap fun env env1 H G v H' hE hH h => ?_
      rw [opG_eq hE, opG_eq hE, opG_eq hE] at h
      exact mapUpdate2_ok hH hk h
    · exact OpOk.no
  case mapEntry t m k =>
    simp only
    split
    · rename_i kt et hk he
      refine OpOk.heap fun env env1 H G v H' hE hH h => ?_
      rw [opG_eq hE, opG_eq hE] at h
      exact mapEntry2_ok hH hk he h
    · exact OpOk.no
  case entryStore t m s v =>
    refine OpOk.heap fun env env1 H G w H' hE hH h => ?_
    rw [opG_eq hE, opG_eq hE, opG_eq hE] at h
    exact entryStore2_ok hH h
  case range t x =>
    refine OpOk.heap fun env env1 H G w H' hE hH h => ?_
    rw [opG_eq hE] at h
    exact range2_ok hH h
  case next it st =>
    refine OpOk.heap fun env env1 H G w H' hE hH h => ?_
    rw [opG_eq hE] at h
    exact next2_ok hH h
  case entry it =>
    refine OpOk.read fun env env1 H G v hE hH h => ?_
    rw [opG_eq hE] at h
    simp only [entry2_ok hH h, Option.map_some]
  case typeAssert x xt a ok =>
    refine OpOk.pure fun env env1 G v hE h => ?_
    rw [opG_eq hE] at h
    simp only [h, Option.map_some]
  case extract t i => exact extractC_ok (opG_gr t) i
  all_goals exact OpOk.no
end
end Go.Am
