import Derived.Test.YtaieiigfheabfaaYm
/-! normal.once. -/
namespace Go.Proofs.Ytaieiigfheabfaa
open Go.Proofs.Ytaieiigfheabfaa.Tw
def onceF : List Stp → Option (List Stp)
  | [] => none
  | [_] => none
  | a :: b :: r => match pairF a b with
    | some x => some (x ++ r)
    | none => (onceF (b :: r)).map (a :: ·)
def missL (l : List Stp) (i : Nat) : Prop := ∀ (k : Nat) (a b : Stp), k < i → l[k]? = some a → l[k + 1]? = some b → pairF a b = none
theorem missL.succ {l : List Stp} {i : Nat} {a b : Stp} (h : missL l i) (ha : l[i]? = some a) (hb : l[i + 1]? = some b) (hn : pairF a b = none) : missL l (i + 1) := fun k x y hk hx hy => by
  by_cases e : k = i
  · subst e
    rw [ha] at hx; rw [hb] at hy
    cases hx; cases hy
    exact hn
  · exact h k x y (by omega) hx hy
theorem onceF_hit : ∀ {l : List Stp} {j : Nat} {a b : Stp} {x : List Stp}, missL l j → l[j]? = some a → l[j + 1]? = some b → pairF a b = some x → onceF l = some (l.take j ++ x ++ l.drop (j + 2))
  | [], j, a, b, x, _, ha, _, _ => by simp at ha
  | [c], j, a, b, x, _, ha, hb, _ => by
    have := (List.getElem?_eq_some_iff.1 hb).1
    simp at this
  | c :: d :: l, 0, a, b, x, _, ha, hb, hp => by
    obtain rfl : c = a := by simpa using ha
    obtain rfl : d = b := by simpa using hb
    simp [onceF, hp]
  | c :: d :: l, j + 1, a, b, x, hm, ha, hb, hp => by
    have h0 := hm 0 c d (by omega) rfl rfl
    have ih := onceF_hit (l := d :: l) (j := j) (a := a) (b := b) (x := x) (fun k y z hk hy hz => hm (k + 1) y z (by omega) (by simpa using hy) (by simpa using hz)) (by simpa using ha) (by simpa using hb) hp
    rw [onceF, h0]
    simp only [ih, Option.map_some]
    simp
theorem onceF_miss : ∀ {l : List Stp} {j : Nat}, missL l j → l.length ≤ j + 1 → onceF l = none
  | [], j, _, _ => rfl
  | [c], j, _, _ => rfl
  | c :: d :: l, 0, hm, h => by simp at h
  | c :: d :: l, j + 1, hm, h => by
    have h0 := hm 0 c d (by omega) rfl rfl
    have ih := onceF_miss (l := d :: l) (j := j) (fun k y z hk hy hz => hm (k + 1) y z (by omega) (by simpa using hy) (by simpa using hz)) (by simpa using h)
    rw [onceF, h0]
    simp only [ih, Option.map_none]
theorem pairF_len (a b : Stp) (x : List Stp) (h : pairF a b = some x) : x = [] ∨ ∃ y, x = [y] := by
  unfold pairF at h
  split at h
  · cases h; exact .inr ⟨_, rfl⟩
  split at h
  · cases h; exact .inr ⟨_, rfl⟩
  split at h
  · cases h; exact .inl rfl
  split at h
  · cases h; exact .inr ⟨_, rfl⟩
  · cases h
theorem stp_scal (F : EmS) (l : List Stp) : escal (F.l.l l) = true := by
  rw [F.l.ok]
  unfold escal
  rw [List.all_map, List.all_eq_true]
  intro x _
  obtain ⟨op, id, par, pl, tx, i, k, s, ks⟩ := x
  show ((F.l.v _).cells.all _) = true
  rw [F.ok]
  rfl
def onceR (l : List Stp) : List Stp × Bool := match onceF l with
  | some x => (x, true)
  | none => (l, false)
set_option maxHeartbeats 4000000 in
theorem once30 (A : Ar) (E : Em) (F : EmS) {P : Program} (hP : P = Try.prog) (n : Nat) (l : List Stp) (hl : l.length ≤ 1000000) (hw : ∀ x ∈ l, within (n + 1) x.sub) : TPure P 30 [.sl 9 (F.l.l l)] (.tup [.sl 9 (F.l.l (onceR l).1), .bool (onceR l).2]) := by
  have hll := F.l.len l
  have hlk : A.len (F.l.l l) = (l.length : Int) := by rw [A.ok_len, hll]
  obtain ⟨lr, hlr⟩ : ∃ x, x = (onceR l).1 := ⟨_, rfl⟩
  obtain ⟨br, hbr⟩ : ∃ x, x = (onceR l).2 := ⟨_, rfl⟩
  rw [← hlr, ← hbr]
  refine TPure.ofE A T0 (T0_ok hP) (hP ▸ Try.func30) rfl _ rfl (by simp) ?_
  cbv
  ((try cbv) <;> (repeat ((with_reducible refine EW.of ?_); cbv)))
  obtain ⟨S, hS⟩ : ∃ S : LI Nat, S = ⟨fun j => [(4, .int .i64 ((j + 1 : Nat) : Int)), (0, .sl 9 (F.l.l l))], fun _ => [], fun j => j ≤ l.length ∧ missL l j, fun j => l.length - j⟩ := ⟨_, rfl⟩
  refine TW.loopM A (T0_ok hP) S _ rfl 0 ?_ ?_ ?_
  · rw [hS]; exact ⟨Nat.zero_le _, fun k a b hk => by omega⟩
  · rw [hS]; cbv; (repeat (first | exact trivial | refine And.intro (Emb.Pur _ _) ?_ | refine And.intro rfl ?_ | refine And.intro (Pur.mk rfl) ?_ | refine And.intro (Pur.mk (by assumption)) ?_))
  intro j hj l1 L1 e1 e2; rw [hS] at hj e1 e2; dsimp only at hj e1 e2; obtain ⟨hj, hm⟩ := hj; subst e1 e2
  obtain ⟨i, hi⟩ : ∃ i, i = j + 1 := ⟨_, rfl⟩
  rw [← hi]
  cbv
  ((try cbv) <;> (repeat ((with_reducible refine EW.of ?_); cbv)))
  refine bsplit (fun h => ?_) (fun h => ?_)
  · have h : i < l.length := lt_nt h rfl hlk
    obtain ⟨a, ha⟩ : ∃ a, l[j]? = some a := ⟨_, List.getElem?_eq_getElem (by omega)⟩
    obtain ⟨b, hb⟩ : ∃ b, l[i]? = some b := ⟨_, List.getElem?_eq_getElem (by omega)⟩
    have hc := Pair10 A E F hP n a b (hw a (List.mem_of_getElem? ha)) (hw b (List.mem_of_getElem? hb))
    have hga := F.l.get ha
    have hgb := F.l.get hb
    have hsub : A.op .sub .i64 (i : Int) 1 = (j : Int) := by rw [sub_i64 (A := A) (rfl : (i : Int) = i) (rfl : (1 : Int) = 1) (by omega) (by omega)]; omega
    obtain ⟨o, ho⟩ : ∃ o, o = pairF a b := ⟨_, rfl⟩
    rw [← ho] at hc
    obtain ⟨⟨op1, id1, par1, pl1, tx1, ⟨i1, k1, s1, ks1⟩⟩, ha0⟩ : ∃ x, x = a := ⟨_, rfl⟩
    obtain ⟨⟨op2, id2, par2, pl2, tx2, ⟨i2, k2, s2, ks2⟩⟩, hb0⟩ : ∃ x, x = b := ⟨_, rfl⟩
    have eA : F.l.v a = .agg [.int .i8 op1, .int .i64 id1, .int .i64 par1, .int .i64 pl1, .str tx1, .int .i64 i1, .int .i64 k1, .str s1, .sl 4 (E.tree.l ks1)] := by rw [← ha0]; exact F.v E ..
    have eB : F.l.v b = .agg [.int .i8 op2, .int .i64 id2, .int .i64 par2, .int .i64 pl2, .str tx2, .int .i64 i2, .int .i64 k2, .str s2, .sl 4 (E.tree.l ks2)] := by rw [← hb0]; exact F.v E ..
    rw [eA] at hga hc
    rw [eB] at hgb hc
    obtain ⟨lo, hlo⟩ : ∃ l, l = F.l.l (o.getD []) := ⟨_, rfl⟩
    obtain ⟨os, hos⟩ : ∃ b, b = o.isSome := ⟨_, rfl⟩
    rw [← hlo, ← hos] at hc
    ((try cbv) <;> (repeat ((with_reducible refine EW.of ?_); cbv)))
    (refine TW.draw (A := A) (T0_ok hP) (hP ▸ follows_mixed) (by kernel_rfl) rfl ?_; cbv)
    refine ⟨j, _, hsub, hga, ?_⟩
    cbv
    refine ⟨i, _, rfl, hgb, ?_⟩
    cbv
    (refine ⟨Ent.of (hP ▸ Try.func10) rfl, ?_⟩; refine ⟨_, TC.pureX hc (by cbv; (repeat (first | exact trivial | refine And.intro (Emb.Pur _ _) ?_ | refine And.intro rfl ?_ | refine And.intro (Pur.mk rfl) ?_ | refine And.intro (Pur.mk (by assumption)) ?_))), ?_⟩; cbv)
    ((try cbv) <;> (repeat ((with_reducible refine EW.of ?_); cbv)))
    cases o with
    | none =>
      obtain rfl : os = false := hos
      ((try cbv) <;> (repeat ((with_reducible refine EW.of ?_); cbv)))
      refine LM.of i rfl ?_ ?_ ?_
      · rw [hS]; exact ⟨by omega, by rw [hi]; exact hm.succ ha (by rw [← hi]; exact hb) ho.symm⟩
      · rw [hS]; show l.length - i < l.length - j; omega
      · rw [hS]; (cbv; (repeat (first | exact trivial | refine And.intro (Emb.Pur _ _) ?_ | refine And.intro rfl ?_ | refine And.intro (Pur.mk rfl) ?_ | refine And.intro (Pur.mk (by assumption)) ?_)); refine And.intro (inc_eq A (by omega)) ?_; (repeat (first | exact trivial | refine And.intro (Emb.Pur _ _) ?_ | refine And.intro rfl ?_ | refine And.intro (Pur.mk rfl) ?_ | refine And.intro (Pur.mk (by assumption)) ?_)))
    | some x =>
      obtain rfl : os = true := hos
      replace hlo : lo = F.l.l x := hlo
      have hhit := onceF_hit hm ha (by rw [← hi]; exact hb) ho.symm
      have hR : onceR l = (l.take j ++ x ++ l.drop (j + 2), true) := by rw [onceR, hhit]
      rw [hR] at hlr hbr
      dsimp only at hlr hbr
      subst hbr
      obtain ⟨tk, htk⟩ : ∃ y, y = l.take j := ⟨_, rfl⟩
      obtain ⟨dr, hdr⟩ : ∃ y, y = l.drop (j + 2) := ⟨_, rfl⟩
      rw [← htk, ← hdr] at hlr
      have htl : (F.l.l tk).length = j := by rw [F.l.len, htk, List.length_take]; omega
      have hdl : (F.l.l dr).length = l.length - (j + 2) := by rw [F.l.len, hdr, List.length_drop]
      have hadd : A.op .add .i64 (i : Int) 1 = ((j + 2 : Nat) : Int) := by rw [hi]; exact inc_eq A (by omega)
      obtain ⟨j2, hj2⟩ : ∃ y, y = j + 2 := ⟨_, rfl⟩
      rw [← hj2] at hadd hdr hdl
      ((try cbv) <;> (repeat ((with_reducible refine EW.of ?_); cbv)))
      rcases pairF_len a b x ho.symm with rfl | ⟨y, rfl⟩
      · rw [F.l.nil] at hlo
        subst hlo
        cases hc : dr with
        | nil =>
          rw [hc, F.l.nil] at hdl
          have hlr2 : F.l.l tk = F.l.l lr := by rw [hlr, hc]; simp
          (refine TW.drawP (A := A) [(7, []), (12, [])] (T0_ok hP) (hP ▸ follows_mixed) (by cbv) rfl (by cbv) (by cbv) (by cbv) rfl rfl rfl ?_; cbv)
          refine ⟨j, hsub, ?_⟩
          cbv
          refine ⟨j, hsub, rfl, F.l.l tk, by rw [htk]; exact (F.l.take l j).symm, Nat.zero_le _, by omega, ?_⟩
          cbv
          refine ⟨rfl, ?_⟩
          refine ⟨j2, hadd, [], by rw [F.l.drop, ← hdr, hc, F.l.nil], by show j2 ≤ (F.l.l l).length; omega, ?_⟩
          cbv
          refine ⟨rfl, ?_⟩
          ((try cbv) <;> (repeat ((with_reducible refine EW.of ?_); cbv)))
          exact ⟨hlr2, Emb.Pur _ _, trivial⟩
        | cons c dr2 =>
          have hcl : (F.l.l dr).length = dr2.length + 1 := by rw [F.l.len, hc]; rfl
          have hsc : escal (F.l.v c :: F.l.l dr2) = true := by rw [← F.l.cons]; exact stp_scal F _
          have hes : F.l.l lr = (F.l.l tk).take j ++ (F.l.v c :: F.l.l dr2) := by
            rw [hlr, hc, List.append_nil, F.l.app, F.l.cons, List.take_of_length_le (Nat.le_of_eq htl)]
          obtain ⟨q, hq⟩ : ∃ q, q = lr.length := ⟨_, rfl⟩
          have hql : q = j + (dr2.length + 1) := by
            have := congrArg List.length hes
            rw [F.l.len, List.length_append, List.length_take, htl, List.length_cons, F.l.len] at this
            omega
          have hel : (F.l.v c :: F.l.l dr2).length = dr2.length + 1 := by rw [List.length_cons, F.l.len]
          obtain ⟨cv, hcv⟩ : ∃ v, v = F.l.v c := ⟨_, rfl⟩
          rw [← hcv] at hsc hes hel
          (refine TW.drawP (A := A) [(7, []), (12, [some (.arr 9 (F.l.l lr))])] (T0_ok hP) (hP ▸ follows_mixed) (by cbv) rfl (by cbv) (by cbv) (by cbv) rfl rfl rfl ?_; cbv)
          refine ⟨j, hsub, ?_⟩
          cbv
          refine ⟨j, hsub, rfl, F.l.l tk, by rw [htk]; exact (F.l.take l j).symm, Nat.zero_le _, by omega, ?_⟩
          cbv
          refine ⟨rfl, ?_⟩
          refine ⟨j2, hadd, cv :: F.l.l dr2, by rw [F.l.drop, ← hdr, hc, F.l.cons, hcv], by show j2 ≤ (F.l.l l).length; omega, ?_⟩
          cbv
          refine ⟨⟨hsc⟩, j, htl.symm, q, F.l.l lr, by rw [hel, hql], hes, Nat.le_of_eq htl.symm, by show q * 104 ≤ _; omega, by omega, ?_⟩
          refine ⟨rfl, ?_⟩
          cbv
          ((try cbv) <;> (repeat ((with_reducible refine EW.of ?_); cbv)))
          exact ⟨F.l.cut hq, Emb.Pur _ _, trivial⟩
      · rw [F.l.cons, F.l.nil] at hlo
        obtain ⟨l1, hl1⟩ : ∃ l1, l1 = tk ++ [y] := ⟨_, rfl⟩
        rw [← hl1] at hlr
        have hsc : escal [F.l.v y] = true := by
          have := stp_scal F [y]
          rw [F.l.cons, F.l.nil] at this
          exact this
        have hes1 : F.l.l l1 = (F.l.l tk).take j ++ [F.l.v y] := by
          rw [hl1, F.l.app, F.l.cons, F.l.nil, List.take_of_length_le (Nat.le_of_eq htl)]
        have hl1l : (F.l.l l1).length = j + 1 := by rw [hes1, List.length_append, List.length_take, htl]; simp
        have hes2 : F.l.l lr = (F.l.l l1).take (j + 1) ++ F.l.l dr := by
          rw [hlr, F.l.app, List.take_of_length_le (Nat.le_of_eq hl1l)]
        obtain ⟨q1, hq1⟩ : ∃ q, q = j + 1 := ⟨_, rfl⟩
        rw [← hq1] at hes2 hl1l
        obtain ⟨q, hq⟩ : ∃ q, q = lr.length := ⟨_, rfl⟩
        have hql : q = q1 + (l.length - j2) := by
          have := congrArg List.length hes2
          rw [F.l.len, List.length_append, List.length_take, hl1l, hdl] at this
          omega
        obtain ⟨cv, hcv⟩ : ∃ v, v = F.l.v y := ⟨_, rfl⟩
        rw [← hcv] at hsc hes1 hlo
        subst hlo
        have hsd := stp_scal F dr
        (refine TW.drawP (A := A) [(7, [some (.arr 9 (F.l.l l1))]), (12, [none, some (.arr 9 (F.l.l lr))])] (T0_ok hP) (hP ▸ follows_mixed) (by cbv) rfl (by cbv) (by cbv) (by cbv) rfl rfl rfl ?_; cbv)
        refine ⟨j, hsub, ?_⟩
        cbv
        refine ⟨j, hsub, rfl, F.l.l tk, by rw [htk]; exact (F.l.take l j).symm, Nat.zero_le _, by omega, ?_⟩
        cbv
        refine ⟨⟨hsc⟩, j, htl.symm, q1, F.l.l l1, by rw [hq1]; rfl, hes1, Nat.le_of_eq htl.symm, by show q1 * 104 ≤ _; omega, by omega, ?_⟩
        refine ⟨rfl, ?_⟩
        cbv
        refine ⟨j2, hadd, F.l.l dr, by rw [F.l.drop, ← hdr], by show j2 ≤ (F.l.l l).length; omega, ?_⟩
        cbv
        refine ⟨⟨hsd⟩, q, F.l.l lr, by rw [hdl, hql], hes2, Nat.le_of_eq hl1l.symm, by show q * 104 ≤ _; omega, by omega, ?_⟩
        refine ⟨rfl, ?_⟩
        cbv
        ((try cbv) <;> (repeat ((with_reducible refine EW.of ?_); cbv)))
        exact ⟨F.l.cut hq, Emb.Pur _ _, trivial⟩
  · have h : l.length ≤ i := lt_nf h rfl hlk
    have hmiss := onceF_miss hm (by omega)
    have hR : onceR l = (l, false) := by rw [onceR, hmiss]
    rw [hR] at hlr hbr
    dsimp only at hlr hbr
    subst hbr hlr
    ((try cbv) <;> (repeat ((with_reducible refine EW.of ?_); cbv)))
    (repeat (first | exact trivial | refine And.intro (Emb.Pur _ _) ?_ | refine And.intro rfl ?_ | refine And.intro (Pur.mk rfl) ?_ | refine And.intro (Pur.mk (by assumption)) ?_))
end Go.Proofs.Ytaieiigfheabfaa
