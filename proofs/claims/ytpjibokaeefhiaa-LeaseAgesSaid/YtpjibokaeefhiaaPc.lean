import Derived.Test.YtpjibokaeefhiaaPb
import Derived.Test.YtpjibokaeefhiaaOx
import Derived.Test.YtpjibokaeefhiaaOh
import Derived.Test.YtpjibokaeefhiaaTw8
import Derived.Test.YtpjibokaeefhiaaOq
/-! The law LeaseAges, walked. -/
namespace Go.Proofs.Ytpjibokaeefhiaa
open Go.Proofs.Ytpjibokaeefhiaa.Tw
theorem runR_out (term : Int) (f0 : Int → Int) : ∀ (l : List Lease) (s : List Int × List Int × List Int), (runR term f0 s l).2.2.length ≤ s.2.2.length + l.length
  | [], s => Nat.le_refl _
  | x :: l, s => by
    have ih := runR_out term f0 l (stepR term f0 x s)
    have h : (stepR term f0 x s).2.2.length ≤ s.2.2.length + 1 := by
      unfold stepR
      split
      · omega
      · dsimp only
        split
        · simp
        · omega
    show (runR term f0 (stepR term f0 x s) l).2.2.length ≤ s.2.2.length + (l.length + 1)
    omega
set_option maxHeartbeats 2000000 in
theorem lawAges (A : Ar) (E : Em) (F : EmL) (H : Emb (List Lease)) (hH : ∀ l, H.v l = .sl 5 (F.l.l l)) (G : EmE) {P : Program} (hP : P = Try.prog) (term : Int) (ll : List (List Lease)) (id : Int) : TPure P 9 [.int .i64 term, .sl 1 (H.l ll), .int .i64 id] (.bool true) := by
  refine TPure.ofE A T0 (T0_ok hP) (hP ▸ Try.func9) rfl _ rfl (by simp) ?_
  have h35 := wakes35 A hP
  have h42n := Tick42n A F hP []
  rw [F.l.nil] at h42n
  have h44n := Age44n A hP id
  have hll := H.len ll
  cbv
  ((try cbv) <;> (repeat ((with_reducible refine EW.of ?_); cbv)))
  refine bsplit (fun h => ?_) (fun h => ?_)
  · ((try cbv) <;> (repeat ((with_reducible refine EW.of ?_); cbv)))
    (refine ⟨Ent.of (hP ▸ Try.func35) rfl, ?_⟩; refine TC.pureE h35 ?_; cbv; (repeat (first | exact trivial | refine And.intro (Emb.Pur _ _) ?_ | refine And.intro rfl ?_ | refine And.intro (Pur.mk rfl) ?_ | refine And.intro (Pur.mk (by assumption)) ?_)); ((try cbv) <;> (repeat ((with_reducible refine EW.of ?_); cbv))))
  · have h : (H.l ll).length ≤ 60 := lt_nf (i := 60) h rfl (A.ok_len _)
    have hG0 : G.l [] = [] := by rw [G.ok]; rfl
    by_cases ht : 1 ≤ term ∧ term ≤ 1125899906842624
    · have h39 := NewAges39 A hP term ht.1 ht.2
      have h40 := NewAges40 A hP term ht.1 ht.2
      ((try cbv) <;> (repeat ((with_reducible refine EW.of ?_); cbv)))
      refine ⟨Ent.of (hP ▸ Try.func39) rfl, ?_⟩
      refine TC1.call [] h39 ?_
      cbv
      (repeat (first | exact trivial | refine And.intro (Emb.Pur _ _) ?_ | refine And.intro rfl ?_ | refine And.intro (Pur.mk rfl) ?_ | refine And.intro (Pur.mk (by assumption)) ?_))
      refine And.intro ⟨fun x h => by cases h⟩ ?_
      ((try cbv) <;> (repeat ((with_reducible refine EW.of ?_); cbv)))
      refine ⟨Ent.of (hP ▸ Try.func40) rfl, ?_⟩
      refine TC1.call [] h40 ?_
      cbv
      (repeat (first | exact trivial | refine And.intro (Emb.Pur _ _) ?_ | refine And.intro rfl ?_ | refine And.intro (Pur.mk rfl) ?_ | refine And.intro (Pur.mk (by assumption)) ?_))
      ((try cbv) <;> (repeat ((with_reducible refine EW.of ?_); cbv)))
      (first | refine bno (neF rfl) ?_ | refine bno (nbF rfl) ?_)
      ((try cbv) <;> (repeat ((with_reducible refine EW.of ?_); cbv)))
      refine bno (show A.bnot (A.beq false (A.bnot (A.eq 0 0))) = false by simp [A.ok_bnot, A.ok_beq, A.ok_eq]) ?_
      ((try cbv) <;> (repeat ((with_reducible refine EW.of ?_); cbv)))
      obtain ⟨S, hS⟩ : ∃ S : LI (Nat × Nat × List Ent3 × List Int × List Int), S = ⟨fun x => [(11, .int .i64 x.1), (8, .int .i64 0), (7, .ref 0 2 0 0), (9, .ref 2 3 0 0), (1, .sl 1 (H.l ll)), (2, .int .i64 id)], fun x => [some (.box 2 (.agg [.map 1, .int .i64 term])), some (.mp x.2.1 (G.l x.2.2.1)), some (.box 3 (.agg [.int .i64 term, .sl 1 (E.int.l x.2.2.2.1), .sl 1 (E.int.l x.2.2.2.2)]))],
        fun x => x.1 ≤ ll.length ∧ OkE x.2.1 x.2.2.1 (60 * x.1) ∧ x.2.2.2.1.length ≤ 60 ∧ x.2.2.2.2.length = x.2.2.2.1.length ∧ ∀ k, ageE k x.2.2.1 = ageS k x.2.2.2.1 x.2.2.2.2, fun x => ll.length - x.1⟩ := ⟨_, rfl⟩
      refine TW.loopM A (T0_ok hP) S _ rfl (0, 0, [], [], []) ?_ ?_ ?_
      · rw [hS]; exact ⟨Nat.zero_le _, ⟨by simp, by simp, by simp, by simp, by simp⟩, by simp, rfl, fun k => rfl⟩
      · rw [hS]
        cbv
        (repeat (first | exact trivial | refine And.intro hG0.symm ?_ | refine And.intro E.int.nil.symm ?_ | refine And.intro (G.pur _) ?_ | refine And.intro (Emb.Pur _ _) ?_ | refine And.intro (inc_eq A (by omega)) ?_ | refine And.intro rfl ?_))
      rintro ⟨j, c, m, is, ns⟩ hj l1 L1 e1 e2
      rw [hS] at hj e1 e2
      dsimp only at hj e1 e2
      obtain ⟨hj, hok, hi60, hnl, hsame⟩ := hj
      replace hok : OkE c m (60 * (j : Int)) := hok
      subst e1 e2
      cbv
      ((try cbv) <;> (repeat ((with_reducible refine EW.of ?_); cbv)))
      refine bsplit (fun h2 => ?_) (fun h2 => ?_)
      · have h2 : j < (H.l ll).length := lt_nt h2 rfl (A.ok_len _)
        ((try cbv) <;> (repeat ((with_reducible refine EW.of ?_); cbv)))
        (first | refine byes (eqT rfl) ?_ | refine byes (beqT rfl) ?_)
        ((try cbv) <;> (repeat ((with_reducible refine EW.of ?_); cbv)))
        obtain ⟨lk, hlk⟩ : ∃ y, ll[j]? = some y := ⟨_, List.getElem?_eq_getElem (by omega)⟩
        have hget : (H.l ll)[j]? = some (.sl 5 (F.l.l lk)) := by rw [H.get hlk, hH]
        have hlkl := F.l.len lk
        refine ⟨j, _, rfl, hget, ?_⟩
        cbv
        ((try cbv) <;> (repeat ((with_reducible refine EW.of ?_); cbv)))
        refine bsplit (fun h3 => ?_) (fun h3 => ?_)
        · ((try cbv) <;> (repeat ((with_reducible refine EW.of ?_); cbv)))
          (refine ⟨Ent.of (hP ▸ Try.func35) rfl, ?_⟩; refine TC.pureE h35 ?_; cbv; (repeat (first | exact trivial | refine And.intro (Emb.Pur _ _) ?_ | refine And.intro rfl ?_ | refine And.intro (Pur.mk rfl) ?_ | refine And.intro (Pur.mk (by assumption)) ?_)); ((try cbv) <;> (repeat ((with_reducible refine EW.of ?_); cbv))))
        · have h3 : (F.l.l lk).length ≤ 60 := lt_nf (i := 60) h3 rfl (A.ok_len _)
          have hj0 : (0 : Int) ≤ 60 * (j : Int) := by omega
          have hoky := tickS_ok (term := term) (l := lk) hj0 hok
          have hlaw := tick_law term lk c m is ns hsame
          obtain ⟨⟨c', m', out⟩, hts⟩ : ∃ r, tickS term lk c m = r := ⟨_, rfl⟩
          obtain ⟨⟨is', ns', out2⟩, htr⟩ : ∃ r, tickR term lk is ns = r := ⟨_, rfl⟩
          have holen := runR_out term (fun k => ageS k is ns) lk ([], [], [])
          rw [show runR term (fun k => ageS k is ns) ([], [], []) lk = (is', ns', out2) from htr] at holen
          rw [hts] at hoky
          rw [hts, htr] at hlaw
          dsimp only at hlaw hoky
          obtain ⟨hout, hsame', hnl', hi60'⟩ := hlaw
          subst hout
          have hcast : (60 * (j : Int)) ≤ 3600 := by omega
          have h42 := Tick42 A E F G hP lk (by omega) term c m (60 * j) (by omega) (by omega) hok c' m' out2 hts
          have h43 := Tick43 A E F hP lk (by omega) term is ns (by omega) hnl (fun k => by
            have := OkE.age (c := c) (K := 60 * j) (k := k) hj0 hok.lo hok.hi
            rw [hsame] at this
            omega) is' ns' out2 htr
          ((try cbv) <;> (repeat ((with_reducible refine EW.of ?_); cbv)))
          (refine TW.drawC (A := A) [] _ [(5, [some (.box 2 (.agg [.map 1, .int .i64 term])), some (.mp c' (G.l m')), some (.box 3 (.agg [.int .i64 term, .sl 1 (E.int.l is), .sl 1 (E.int.l ns)]))]), (11, [some (.box 2 (.agg [.map 1, .int .i64 term])), some (.mp c' (G.l m')), some (.box 3 (.agg [.int .i64 term, .sl 1 (E.int.l is'), .sl 1 (E.int.l ns')]))])] rfl (T0_ok hP) (hP ▸ follows_mixed) (by kernel_rfl) rfl (by kernel_rfl) (by cbv) (by first | kernel_rfl | cbv) rfl rfl rfl ?_; cbv)
          refine ⟨j, _, rfl, hget, ?_⟩
          cbv
          refine And.intro (Ent.of (hP ▸ Try.func42) rfl) ⟨.sl 1 (E.int.l out2), [some (.box 2 (.agg [.map 1, .int .i64 term])), some (.mp c' (G.l m')), some (.box 3 (.agg [.int .i64 term, .sl 1 (E.int.l is), .sl 1 (E.int.l ns)]))], TC1.call [0, 1] h42 ?_, ⟨rfl, ?_⟩⟩
          · skip
            cbv
            (repeat (first | exact trivial | refine And.intro hG0.symm ?_ | refine And.intro E.int.nil.symm ?_ | refine And.intro (G.pur _) ?_ | refine And.intro (Emb.Pur _ _) ?_ | refine And.intro (inc_eq A (by omega)) ?_ | refine And.intro rfl ?_))
          cbv
          refine ⟨j, _, rfl, hget, ?_⟩
          cbv
          refine And.intro (Ent.of (hP ▸ Try.func43) rfl) ⟨.sl 1 (E.int.l out2), [some (.box 2 (.agg [.map 1, .int .i64 term])), some (.mp c' (G.l m')), some (.box 3 (.agg [.int .i64 term, .sl 1 (E.int.l is'), .sl 1 (E.int.l ns')]))], TC1.call [2] h43 ?_, ⟨rfl, ?_⟩⟩
          · skip
            cbv
            (repeat (first | exact trivial | refine And.intro hG0.symm ?_ | refine And.intro E.int.nil.symm ?_ | refine And.intro (G.pur _) ?_ | refine And.intro (Emb.Pur _ _) ?_ | refine And.intro (inc_eq A (by omega)) ?_ | refine And.intro rfl ?_))
          cbv
          have h41 := ints41 A E hP out2 out2 (Nat.le_trans holen (by show 0 + lk.length ≤ 1000000; omega))
          rw [decide_eq_true rfl] at h41
          have h44 := fun i => Age44 A hP term c' (G.l m') i (ageS i is' ns') (G.keys _ _) (G.pur _) (by rw [G.ok, age_ent, hsame'])
          have h45 := fun i => Age45 A E hP term is' ns' (by omega) hnl'.symm i
          (refine ⟨Ent.of (hP ▸ Try.func41) rfl, ?_⟩; refine ⟨_, TC.pureX h41 (by cbv; (repeat (first | exact trivial | refine And.intro (Emb.Pur _ _) ?_ | refine And.intro rfl ?_ | refine And.intro (Pur.mk rfl) ?_ | refine And.intro (Pur.mk (by assumption)) ?_))), ?_⟩; cbv)
          have h44i := h44 id
          have h45i := h45 id
          generalize ageS id is' ns' = ag at h44i h45i
          refine And.intro (Ent.of (hP ▸ Try.func44) rfl) ⟨.int .i64 ag, TC1.call [0, 1] h44i ?_, ?_⟩
          · skip
            cbv
            (repeat (first | exact trivial | refine And.intro hG0.symm ?_ | refine And.intro E.int.nil.symm ?_ | refine And.intro (G.pur _) ?_ | refine And.intro (Emb.Pur _ _) ?_ | refine And.intro (inc_eq A (by omega)) ?_ | refine And.intro rfl ?_))
          cbv
          refine And.intro (Ent.of (hP ▸ Try.func45) rfl) ⟨.int .i64 ag, TC.pureXT h45i rfl ?_, ?_⟩
          · cbv
            exact ⟨⟨by (repeat (first | exact rfl | exact Emb.purL _ _ | assumption | apply pur_cons | apply pur_sl | apply pur_slt | apply pur_agg | apply pur_tup))⟩, trivial⟩
          cbv
          ((try cbv) <;> (repeat ((with_reducible refine EW.of ?_); cbv)))
          (first | refine bno (neF rfl) ?_ | refine bno (nbF rfl) ?_)
          ((try cbv) <;> (repeat ((with_reducible refine EW.of ?_); cbv)))
          obtain ⟨S2, hS2⟩ : ∃ S : LI Nat, S = ⟨fun x => [(12, .int .i64 x), (11, .int .i64 j), (8, .int .i64 0), (7, .ref 0 2 0 0), (9, .ref 2 3 0 0), (1, .sl 1 (H.l ll)), (2, .int .i64 id)], fun x => [some (.box 2 (.agg [.map 1, .int .i64 term])), some (.mp c' (G.l m')), some (.box 3 (.agg [.int .i64 term, .sl 1 (E.int.l is'), .sl 1 (E.int.l ns')]))],
            fun x => x ≤ lk.length, fun x => lk.length - x⟩ := ⟨_, rfl⟩
          refine TW.loopM A (T0_ok hP) S2 _ rfl 0 ?_ ?_ ?_
          · rw [hS2]; exact Nat.zero_le _
          · rw [hS2]
            cbv
            (repeat (first | exact trivial | refine And.intro hG0.symm ?_ | refine And.intro E.int.nil.symm ?_ | refine And.intro (G.pur _) ?_ | refine And.intro (Emb.Pur _ _) ?_ | refine And.intro (inc_eq A (by omega)) ?_ | refine And.intro rfl ?_))
          rintro k hk l1 L1 e1 e2
          rw [hS2] at hk e1 e2
          dsimp only at hk e1 e2
          subst e1 e2
          cbv
          ((try cbv) <;> (repeat ((with_reducible refine EW.of ?_); cbv)))
          refine ⟨j, _, rfl, hget, ?_⟩
          cbv
          ((try cbv) <;> (repeat ((with_reducible refine EW.of ?_); cbv)))
          refine bsplit (fun h4 => ?_) (fun h4 => ?_)
          · have h4 : k < (F.l.l lk).length := lt_nt h4 rfl (A.ok_len _)
            obtain ⟨x, hx⟩ : ∃ y, lk[k]? = some y := ⟨_, List.getElem?_eq_getElem (by omega)⟩
            obtain ⟨x1, x2, x3, x4, x5⟩ := x
            ((try cbv) <;> (repeat ((with_reducible refine EW.of ?_); cbv)))
            (refine TW.draw (A := A) (T0_ok hP) (hP ▸ follows_mixed) (by kernel_rfl) rfl ?_; cbv)
            refine ⟨j, _, rfl, hget, ?_⟩
            cbv
            refine ⟨k, _, rfl, F.get hx, ?_⟩
            cbv
            have h44i := h44 x1
            have h45i := h45 x1
            generalize ageS x1 is' ns' = ag at h44i h45i
            refine And.intro (Ent.of (hP ▸ Try.func44) rfl) ⟨.int .i64 ag, TC1.call [0, 1] h44i ?_, ?_⟩
            · skip
              cbv
              (repeat (first | exact trivial | refine And.intro hG0.symm ?_ | refine And.intro E.int.nil.symm ?_ | refine And.intro (G.pur _) ?_ | refine And.intro (Emb.Pur _ _) ?_ | refine And.intro (inc_eq A (by omega)) ?_ | refine And.intro rfl ?_))
            cbv
            refine ⟨j, _, rfl, hget, ?_⟩
            cbv
            refine ⟨k, _, rfl, F.get hx, ?_⟩
            cbv
            refine And.intro (Ent.of (hP ▸ Try.func45) rfl) ⟨.int .i64 ag, TC.pureXT h45i rfl ?_, ?_⟩
            · cbv
              exact ⟨⟨by (repeat (first | exact rfl | exact Emb.purL _ _ | assumption | apply pur_cons | apply pur_sl | apply pur_slt | apply pur_agg | apply pur_tup))⟩, trivial⟩
            cbv
            ((try cbv) <;> (repeat ((with_reducible refine EW.of ?_); cbv)))
            (first | refine bno (neF rfl) ?_ | refine bno (nbF rfl) ?_)
            ((try cbv) <;> (repeat ((with_reducible refine EW.of ?_); cbv)))
            refine LM.of (k + 1) rfl ?_ ?_ ?_
            · rw [hS2]; show k + 1 ≤ lk.length; omega
            · rw [hS2]; show lk.length - (k + 1) < lk.length - k; omega
            · rw [hS2]
              cbv
              (repeat (first | exact trivial | refine And.intro hG0.symm ?_ | refine And.intro E.int.nil.symm ?_ | refine And.intro (G.pur _) ?_ | refine And.intro (Emb.Pur _ _) ?_ | refine And.intro (inc_eq A (by omega)) ?_ | refine And.intro rfl ?_))
          · ((try cbv) <;> (repeat ((with_reducible refine EW.of ?_); cbv)))
            refine LM.of (j + 1, c', m', is', ns') rfl ?_ ?_ ?_
            · rw [hS]; exact ⟨by show j + 1 ≤ _; omega, hoky.more (by show 60 * (j : Int) + (lk.length : Int) ≤ 60 * ((j + 1 : Nat) : Int); omega), (show is'.length ≤ 60 by omega), hnl'.symm, hsame'⟩
            · rw [hS]; show ll.length - (j + 1) < ll.length - j; omega
            · rw [hS]
              cbv
              (repeat (first | exact trivial | refine And.intro hG0.symm ?_ | refine And.intro E.int.nil.symm ?_ | refine And.intro (G.pur _) ?_ | refine And.intro (Emb.Pur _ _) ?_ | refine And.intro (inc_eq A (by omega)) ?_ | refine And.intro rfl ?_))
      · skip
        ((try cbv) <;> (repeat ((with_reducible refine EW.of ?_); cbv)))
        (refine ⟨Ent.of (hP ▸ Try.func42) rfl, ?_⟩; refine TC.pureE h42n ?_; cbv; (repeat (first | exact trivial | refine And.intro (Emb.Pur _ _) ?_ | refine And.intro rfl ?_ | refine And.intro (Pur.mk rfl) ?_ | refine And.intro (Pur.mk (by assumption)) ?_)); ((try cbv) <;> (repeat ((with_reducible refine EW.of ?_); cbv))))
        (repeat (first | refine And.intro (Pur.mk rfl) ?_))
        ((try cbv) <;> (repeat ((with_reducible refine EW.of ?_); cbv)))
        refine byes (eqT (A.ok_len [])) ?_
        cbv
        (refine ⟨Ent.of (hP ▸ Try.func44) rfl, ?_⟩; refine TC.pureE h44n ?_; cbv; (repeat (first | exact trivial | refine And.intro (Emb.Pur _ _) ?_ | refine And.intro rfl ?_ | refine And.intro (Pur.mk rfl) ?_ | refine And.intro (Pur.mk (by assumption)) ?_)); ((try cbv) <;> (repeat ((with_reducible refine EW.of ?_); cbv))))
        (first | refine byes (eqT rfl) ?_ | refine byes (beqT rfl) ?_)
        cbv
        (refine ⟨Ent.of (hP ▸ Try.func35) rfl, ?_⟩; refine TC.pureE h35 ?_; cbv; (repeat (first | exact trivial | refine And.intro (Emb.Pur _ _) ?_ | refine And.intro rfl ?_ | refine And.intro (Pur.mk rfl) ?_ | refine And.intro (Pur.mk (by assumption)) ?_)); ((try cbv) <;> (repeat ((with_reducible refine EW.of ?_); cbv))))
    · have h39 := NewAges39n A hP term (by omega)
      have h40 := NewAges40n A hP term (by omega)
      ((try cbv) <;> (repeat ((with_reducible refine EW.of ?_); cbv)))
      (refine ⟨Ent.of (hP ▸ Try.func39) rfl, ?_⟩; refine TC.pureE h39 ?_; cbv; (repeat (first | exact trivial | refine And.intro (Emb.Pur _ _) ?_ | refine And.intro rfl ?_ | refine And.intro (Pur.mk rfl) ?_ | refine And.intro (Pur.mk (by assumption)) ?_)); ((try cbv) <;> (repeat ((with_reducible refine EW.of ?_); cbv))))
      (refine ⟨Ent.of (hP ▸ Try.func40) rfl, ?_⟩; refine TC.pureE h40 ?_; cbv; (repeat (first | exact trivial | refine And.intro (Emb.Pur _ _) ?_ | refine And.intro rfl ?_ | refine And.intro (Pur.mk rfl) ?_ | refine And.intro (Pur.mk (by assumption)) ?_)); ((try cbv) <;> (repeat ((with_reducible refine EW.of ?_); cbv))))
      (first | refine bno (neF rfl) ?_ | refine bno (nbF rfl) ?_)
      ((try cbv) <;> (repeat ((with_reducible refine EW.of ?_); cbv)))
      refine bno (show A.bnot (A.beq true (A.bnot (A.eq 2 0))) = false by simp [A.ok_bnot, A.ok_beq, A.ok_eq]) ?_
      ((try cbv) <;> (repeat ((with_reducible refine EW.of ?_); cbv)))
      obtain ⟨S, hS⟩ : ∃ S : LI Nat, S = ⟨fun x => [(11, .int .i64 x), (8, .int .i64 2), (1, .sl 1 (H.l ll)), (2, .int .i64 id)], fun x => [], fun x => x = 0, fun x => 0⟩ := ⟨_, rfl⟩
      refine TW.loopM A (T0_ok hP) S _ rfl 0 ?_ ?_ ?_
      · rw [hS]
      · rw [hS]
        cbv
        (repeat (first | exact trivial | refine And.intro hG0.symm ?_ | refine And.intro E.int.nil.symm ?_ | refine And.intro (G.pur _) ?_ | refine And.intro (Emb.Pur _ _) ?_ | refine And.intro (inc_eq A (by omega)) ?_ | refine And.intro rfl ?_))
      rintro j hj l1 L1 e1 e2
      rw [hS] at hj e1 e2
      dsimp only at hj e1 e2
      subst hj e1 e2
      cbv
      ((try cbv) <;> (repeat ((with_reducible refine EW.of ?_); cbv)))
      refine bsplit (fun h2 => ?_) (fun h2 => ?_)
      · ((try cbv) <;> (repeat ((with_reducible refine EW.of ?_); cbv)))
        refine bno (eqF (show (2 : Int) ≠ 0 by decide)) ?_
        ((try cbv) <;> (repeat ((with_reducible refine EW.of ?_); cbv)))
        (refine ⟨Ent.of (hP ▸ Try.func42) rfl, ?_⟩; refine TC.pureE h42n ?_; cbv; (repeat (first | exact trivial | refine And.intro (Emb.Pur _ _) ?_ | refine And.intro rfl ?_ | refine And.intro (Pur.mk rfl) ?_ | refine And.intro (Pur.mk (by assumption)) ?_)); ((try cbv) <;> (repeat ((with_reducible refine EW.of ?_); cbv))))
        (repeat (first | refine And.intro (Pur.mk rfl) ?_))
        ((try cbv) <;> (repeat ((with_reducible refine EW.of ?_); cbv)))
        refine byes (eqT (A.ok_len [])) ?_
        cbv
        (refine ⟨Ent.of (hP ▸ Try.func44) rfl, ?_⟩; refine TC.pureE h44n ?_; cbv; (repeat (first | exact trivial | refine And.intro (Emb.Pur _ _) ?_ | refine And.intro rfl ?_ | refine And.intro (Pur.mk rfl) ?_ | refine And.intro (Pur.mk (by assumption)) ?_)); ((try cbv) <;> (repeat ((with_reducible refine EW.of ?_); cbv))))
        (first | refine byes (eqT rfl) ?_ | refine byes (beqT rfl) ?_)
        cbv
        (refine ⟨Ent.of (hP ▸ Try.func35) rfl, ?_⟩; refine TC.pureE h35 ?_; cbv; (repeat (first | exact trivial | refine And.intro (Emb.Pur _ _) ?_ | refine And.intro rfl ?_ | refine And.intro (Pur.mk rfl) ?_ | refine And.intro (Pur.mk (by assumption)) ?_)); ((try cbv) <;> (repeat ((with_reducible refine EW.of ?_); cbv))))
      · skip
        ((try cbv) <;> (repeat ((with_reducible refine EW.of ?_); cbv)))
        (refine ⟨Ent.of (hP ▸ Try.func42) rfl, ?_⟩; refine TC.pureE h42n ?_; cbv; (repeat (first | exact trivial | refine And.intro (Emb.Pur _ _) ?_ | refine And.intro rfl ?_ | refine And.intro (Pur.mk rfl) ?_ | refine And.intro (Pur.mk (by assumption)) ?_)); ((try cbv) <;> (repeat ((with_reducible refine EW.of ?_); cbv))))
        (repeat (first | refine And.intro (Pur.mk rfl) ?_))
        ((try cbv) <;> (repeat ((with_reducible refine EW.of ?_); cbv)))
        refine byes (eqT (A.ok_len [])) ?_
        cbv
        (refine ⟨Ent.of (hP ▸ Try.func44) rfl, ?_⟩; refine TC.pureE h44n ?_; cbv; (repeat (first | exact trivial | refine And.intro (Emb.Pur _ _) ?_ | refine And.intro rfl ?_ | refine And.intro (Pur.mk rfl) ?_ | refine And.intro (Pur.mk (by assumption)) ?_)); ((try cbv) <;> (repeat ((with_reducible refine EW.of ?_); cbv))))
        (first | refine byes (eqT rfl) ?_ | refine byes (beqT rfl) ?_)
        cbv
        (refine ⟨Ent.of (hP ▸ Try.func35) rfl, ?_⟩; refine TC.pureE h35 ?_; cbv; (repeat (first | exact trivial | refine And.intro (Emb.Pur _ _) ?_ | refine And.intro rfl ?_ | refine And.intro (Pur.mk rfl) ?_ | refine And.intro (Pur.mk (by assumption)) ?_)); ((try cbv) <;> (repeat ((with_reducible refine EW.of ?_); cbv))))
def emH0 : Emb (List Lease) := ⟨fun l => .sl 5 (l.map Lease.av), _, fun _ => rfl, fun l => emL0.l.purL l⟩
theorem emH0_ok (l : List Lease) : emH0.v l = .sl 5 (emL0.l.l l) := rfl
end Go.Proofs.Ytpjibokaeefhiaa
