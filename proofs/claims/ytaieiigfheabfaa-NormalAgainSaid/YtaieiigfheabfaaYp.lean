import Derived.Test.YtaieiigfheabfaaYo
/-! normal.Of. -/
namespace Go.Proofs.Ytaieiigfheabfaa
open Go.Proofs.Ytaieiigfheabfaa.Tw
theorem Steps29 (A : Ar) (F : EmS) {P : Program} (hP : P = Try.prog) (l : List Stp) : TC1 P 29 [.sl 9 (F.l.l l)] [] (.func (.func 45) [] [.ref 0 1 0 0]) [some (.box 1 (.sl 9 (F.l.l l)))] := by
  refine TC1.of A _ _ T0 (T0_ok hP) (hP ▸ Try.func29) rfl _ rfl (by simp) ?_
  cbv
  ((try cbv) <;> (repeat ((with_reducible refine EW.of ?_); cbv)))
  refine R1.of ?_
  cbv
  (repeat (first | exact trivial | refine And.intro (Emb.Pur _ _) ?_ | refine And.intro rfl ?_ | refine And.intro (Pur.mk rfl) ?_ | refine And.intro (Pur.mk (by assumption)) ?_))
def formAV (F : EmS) : Option (List Stp) → AV
  | none => .nils
  | some f => .sl 9 (F.l.l f)
set_option maxHeartbeats 4000000 in
theorem Of13 (A : Ar) (E : Em) (F : EmS) {P : Program} (hP : P = Try.prog) (n : Nat) (l : List Stp) (hl : l.length ≤ 1000000) (hw : ∀ x ∈ l, within (n + 1) x.sub) : TPure P 13 [.sl 9 (F.l.l l)] (.sl 9 (F.l.l (nf l))) := by
  have h29 := Steps29 A F hP l
  obtain ⟨r, hr⟩ : ∃ r, r = nf l := ⟨_, rfl⟩
  rw [← hr]
  refine TPure.ofE A T0 (T0_ok hP) (hP ▸ Try.func13) rfl _ rfl (by simp) ?_
  cbv
  ((try cbv) <;> (repeat ((with_reducible refine EW.of ?_); cbv)))
  refine ⟨Ent.of (hP ▸ Try.func29) rfl, ?_⟩
  refine TC1.call [] h29 ?_
  cbv
  (repeat (first | exact trivial | refine And.intro (Emb.Pur _ _) ?_ | refine And.intro rfl ?_ | refine And.intro (Pur.mk rfl) ?_ | refine And.intro (Pur.mk (by assumption)) ?_))
  ((try cbv) <;> (repeat ((with_reducible refine EW.of ?_); cbv)))
  refine TW.range rfl rfl (Ent.of (hP ▸ Try.func45) rfl) ?_
  refine TC.of_ewp A T0 (T0_ok hP) (hP ▸ Try.func45) rfl _ rfl (by simp) ?_
  cbv
  ((try cbv) <;> (repeat ((with_reducible refine EW.of ?_); cbv)))
  obtain ⟨S, hS⟩ : ∃ S : Store → LI (List Stp × Bool × Option (List Stp)), S = fun L => ⟨fun x => [(3, .bool x.2.1), (0, .yield 2), (1, .ref 1 1 0 0)], fun x => (L.set 0 (some (.box 1 (formAV F x.2.2)))).set 1 (some (.box 1 (.sl 9 (F.l.l x.1)))),
    fun x => x.1.length ≤ 1000000 ∧ (∀ y ∈ x.1, within (n + 1) y.sub) ∧ r = nf x.1 ∧ (x.2.1 = false → x.2.2 = some x.1 ∧ nf x.1 = x.1), fun x => x.1.length + (if x.2.1 = true then 1 else 0)⟩ := ⟨_, rfl⟩
  refine TW.loopL A (T0_ok hP) S _ rfl (l, true, none) ?_ ?_ ?_
  · rw [hS]; exact ⟨hl, hw, hr, fun h => by cases h⟩
  · rw [hS]; cbv; (repeat (first | exact trivial | refine And.intro (Emb.Pur _ _) ?_ | refine And.intro rfl ?_ | refine And.intro (Pur.mk rfl) ?_ | refine And.intro (Pur.mk (by assumption)) ?_))
  rintro ⟨lc, ok, fo⟩ hj I l1 L1 e0 e1 e2
  rw [hS] at hj e1 e2
  obtain ⟨hlc, hwc, hrc, hfin⟩ := hj
  dsimp only at hlc hwc hrc hfin e1 e2
  subst e1
  cases ok with
  | false =>
    obtain ⟨hfo, hnf⟩ := hfin rfl
    subst hfo
    rw [hnf] at hrc
    subst hrc
    dsimp only [formAV] at e2
    subst e2
    cbv
    ((try cbv) <;> (repeat ((with_reducible refine EW.of ?_); cbv)))
    (refine ⟨_, _, VSV.refl _ _ _, ?_⟩; cbv; repeat ((with_reducible refine EW.of ?_); cbv))
    (repeat (first | exact trivial | refine And.intro (Emb.Pur _ _) ?_ | refine And.intro rfl ?_ | refine And.intro (Pur.mk rfl) ?_ | refine And.intro (Pur.mk (by assumption)) ?_))
  | true =>
    have h30 := once30 A E F hP n lc hlc hwc
    have hw2 := onceR_within hwc
    have hol := onceR_len (l := lc)
    have hst := nf_step (l := lc)
    have hsp := nf_stop (l := lc)
    have hno : (onceR lc).2 = false → (onceR lc).1 = lc := fun h => by
      unfold onceR at h ⊢
      cases ho : onceF lc with
      | none => rfl
      | some x => rw [ho] at h; cases h
    obtain ⟨l2, hl2⟩ : ∃ x, x = (onceR lc).1 := ⟨_, rfl⟩
    obtain ⟨b2, hb2⟩ : ∃ x, x = (onceR lc).2 := ⟨_, rfl⟩
    rw [← hl2, ← hb2] at h30 hol hst hno
    rw [← hl2] at hw2
    rw [← hb2] at hsp
    clear hl2 hb2
    have hcp := fun (j : Nat) (x : Stp) (hx : lc[j]? = some x) => copiedP A E F hP (n + 1) x (hwc x (List.mem_of_getElem? hx))
    have hll := F.l.len lc
    cases fo with
    | none =>
      dsimp only [formAV] at e2
      by_cases hne : lc = []
      · have h46 := Clone46e A F hP lc hne
        have hnil : F.l.l lc = [] := by rw [hne]; exact F.l.nil
        subst e2
        cbv
        ((try cbv) <;> (repeat ((with_reducible refine EW.of ?_); cbv)))
        refine ⟨Ent.of (hP ▸ Try.func46) rfl, ?_⟩
        refine TC1.call [] h46 ?_
        cbv
        (repeat (first | exact trivial | refine And.intro (Emb.Pur _ _) ?_ | refine And.intro rfl ?_ | refine And.intro (Pur.mk rfl) ?_ | refine And.intro (Pur.mk (by assumption)) ?_))
        ((try cbv) <;> (repeat ((with_reducible refine EW.of ?_); cbv)))
        obtain ⟨S2, hS2⟩ : ∃ S2 : Store → LI Unit, S2 = fun L => ⟨fun x => [(16, .int .i64 0), (15, .int .i64 0), (4, .slt 9 []), (3, .bool true), (0, .yield 2), (1, .ref 1 1 0 0)], fun x => L, fun _ => True, fun _ => 0⟩ := ⟨_, rfl⟩
        refine TW.loopL A (T0_ok hP) S2 _ rfl () ?_ ?_ ?_
        · rw [hS2]; exact trivial
        · rw [hS2]; cbv; (repeat (first | exact trivial | refine And.intro (Emb.Pur _ _) ?_ | refine And.intro rfl ?_ | refine And.intro (Pur.mk rfl) ?_ | refine And.intro (Pur.mk (by assumption)) ?_))
          exact ⟨A.ok_len [], Pur.mk rfl, trivial⟩
        rintro ⟨⟩ hj2 I2 l1 L1 f0 f1 f2
        rw [hS2] at f1 f2
        dsimp only at f1 f2
        subst f1 f2
        cbv
        ((try cbv) <;> (repeat ((with_reducible refine EW.of ?_); cbv)))
        refine bno (ltF (Int.le_refl 0)) ?_
        cbv
        ((try cbv) <;> (repeat ((with_reducible refine EW.of ?_); cbv)))
        refine YW.of fun k0 => ?_
        cbv
        ((try cbv) <;> (repeat ((with_reducible refine EW.of ?_); cbv)))
        (refine ⟨Ent.of (hP ▸ Try.func30) rfl, ?_⟩; refine TC.pureE h30 ?_; cbv; (repeat (first | exact trivial | refine And.intro (Emb.Pur _ _) ?_ | refine And.intro rfl ?_ | refine And.intro (Pur.mk rfl) ?_ | refine And.intro (Pur.mk (by assumption)) ?_)); ((try cbv) <;> (repeat ((with_reducible refine EW.of ?_); cbv))))
        refine LM.of (l2, b2, some lc) rfl ?_ ?_ ?_
        · rw [e0, hS]
          refine ⟨by dsimp only; omega, hw2, ?_, fun h => ⟨?_, ?_⟩⟩
          · dsimp only
            cases b2 with
            | true => rw [hrc, hst rfl]
            | false => rw [hno rfl]; exact hrc
          · dsimp only at h ⊢; rw [hno h]
          · dsimp only at h ⊢; rw [hno h]; exact hsp h
        · rw [e0, hS]
          dsimp only
          cases b2 with
          | true => have := hol.2 rfl; simp; omega
          | false => have := hol.1; simp; omega
        · rw [e0, hS]
          cbv
          (repeat (first | exact trivial | refine And.intro (Emb.Pur _ _) ?_ | refine And.intro rfl ?_ | refine And.intro hnil.symm ?_))
      · obtain ⟨q, hq⟩ : ∃ q, q = lc.length := ⟨_, rfl⟩
        have h46 := Clone46c A F hP lc hlc hne q hq
        subst e2
        cbv
        ((try cbv) <;> (repeat ((with_reducible refine EW.of ?_); cbv)))
        refine ⟨Ent.of (hP ▸ Try.func46) rfl, ?_⟩
        refine TC1.call [] h46 ?_
        cbv
        (repeat (first | exact trivial | refine And.intro (Emb.Pur _ _) ?_ | refine And.intro rfl ?_ | refine And.intro (Pur.mk rfl) ?_ | refine And.intro (Pur.mk (by assumption)) ?_))
        ((try cbv) <;> (repeat ((with_reducible refine EW.of ?_); cbv)))
        obtain ⟨S2, hS2⟩ : ∃ S2 : Store → LI Nat, S2 = fun L => ⟨fun x => [(16, .int .i64 x), (15, .int .i64 q), (4, .row 3 9 0 q), (3, .bool true), (0, .yield 2), (1, .ref 1 1 0 0)], fun x => L, fun x => x ≤ q, fun x => q - x⟩ := ⟨_, rfl⟩
        refine TW.loopL A (T0_ok hP) S2 _ rfl 0 ?_ ?_ ?_
        · rw [hS2]; exact Nat.zero_le _
        · rw [hS2]; cbv; (repeat (first | exact trivial | refine And.intro (Emb.Pur _ _) ?_ | refine And.intro rfl ?_ | refine And.intro (Pur.mk rfl) ?_ | refine And.intro (Pur.mk (by assumption)) ?_))
          exact ⟨A.ok_nat q, trivial⟩
        rintro j hj2 I2 l1 L1 f0 f1 f2
        rw [hS2] at hj2 f1 f2
        dsimp only at hj2 f1 f2
        subst f1 f2
        cbv
        ((try cbv) <;> (repeat ((with_reducible refine EW.of ?_); cbv)))
        refine bsplit (fun h => ?_) (fun h => ?_)
        · have h : j < q := lt_nt h rfl rfl
          obtain ⟨x, hx⟩ : ∃ x, lc[j]? = some x := ⟨_, List.getElem?_eq_getElem (by omega)⟩
          have hcx := hcp j x hx
          have hgx := F.l.get hx
          obtain ⟨op1, id1, par1, pl1, tx1, ⟨i1, k1, s1, ks1⟩⟩ := x
          rw [F.v E] at hcx hgx
          have hset : F.l.l lc = (F.l.l lc).set j (.agg [.int .i8 op1, .int .i64 id1, .int .i64 par1, .int .i64 pl1, .str tx1, .int .i64 i1, .int .i64 k1, .str s1, .sl 4 (E.tree.l ks1)]) := (List.ext_getElem? fun y => by
            by_cases hy : j = y
            · subst hy; rw [List.getElem?_set_self (List.getElem?_eq_some_iff.1 hgx).1, hgx]
            · rw [List.getElem?_set_ne hy])
          ((try cbv) <;> (repeat ((with_reducible refine EW.of ?_); cbv)))
          refine ⟨j, rfl, h, ?_⟩
          rw [Nat.zero_add]
          cbv
          refine ⟨_, hgx, ?_⟩
          cbv
          (refine ⟨Ent.of (hP ▸ Try.func40) rfl, ?_⟩; refine TC.pureE hcx ?_; cbv; (repeat (first | exact trivial | refine And.intro (Emb.Pur _ _) ?_ | refine And.intro rfl ?_ | refine And.intro (Pur.mk rfl) ?_ | refine And.intro (Pur.mk (by assumption)) ?_)); ((try cbv) <;> (repeat ((with_reducible refine EW.of ?_); cbv))))
          refine ⟨j, rfl, h, ?_⟩
          rw [Nat.zero_add]
          cbv
          refine ⟨_, _, hgx, hset, by rfl, ?_⟩
          cbv
          ((try cbv) <;> (repeat ((with_reducible refine EW.of ?_); cbv)))
          refine LM.of (j + 1) rfl ?_ ?_ ?_
          · rw [f0, hS2]; exact h
          · rw [f0, hS2]; show q - (j + 1) < q - j; omega
          · rw [f0, hS2]; (cbv; (repeat (first | exact trivial | refine And.intro (Emb.Pur _ _) ?_ | refine And.intro rfl ?_ | refine And.intro (Pur.mk rfl) ?_ | refine And.intro (Pur.mk (by assumption)) ?_)); refine And.intro (inc_eq A (by omega)) ?_; (repeat (first | exact trivial | refine And.intro (Emb.Pur _ _) ?_ | refine And.intro rfl ?_ | refine And.intro (Pur.mk rfl) ?_ | refine And.intro (Pur.mk (by assumption)) ?_)))
        · have h : q ≤ j := lt_nf h rfl rfl
          ((try cbv) <;> (repeat ((with_reducible refine EW.of ?_); cbv)))
          cbv
          ((try cbv) <;> (repeat ((with_reducible refine EW.of ?_); cbv)))
          refine YW.of fun k0 => ?_
          cbv
          ((try cbv) <;> (repeat ((with_reducible refine EW.of ?_); cbv)))
          (refine ⟨Ent.of (hP ▸ Try.func30) rfl, ?_⟩; refine TC.pureE h30 ?_; cbv; (repeat (first | exact trivial | refine And.intro (Emb.Pur _ _) ?_ | refine And.intro rfl ?_ | refine And.intro (Pur.mk rfl) ?_ | refine And.intro (Pur.mk (by assumption)) ?_)); ((try cbv) <;> (repeat ((with_reducible refine EW.of ?_); cbv))))
          refine LM.of (l2, b2, some lc) rfl ?_ ?_ ?_
          · rw [e0, hS]
            refine ⟨by dsimp only; omega, hw2, ?_, fun h => ⟨?_, ?_⟩⟩
            · dsimp only
              cases b2 with
              | true => rw [hrc, hst rfl]
              | false => rw [hno rfl]; exact hrc
            · dsimp only at h ⊢; rw [hno h]
            · dsimp only at h ⊢; rw [hno h]; exact hsp h
          · rw [e0, hS]
            dsimp only
            cases b2 with
            | true => have := hol.2 rfl; simp; omega
            | false => have := hol.1; simp; omega
          · rw [e0, hS]
            cbv
            (repeat (first | exact trivial | refine And.intro (Emb.Pur _ _) ?_ | refine And.intro rfl ?_ | refine And.intro (F.l.cut hq) ?_))
    | some fo =>
      dsimp only [formAV] at e2
      by_cases hne : lc = []
      · have h46 := Clone46e A F hP lc hne
        have hnil : F.l.l lc = [] := by rw [hne]; exact F.l.nil
        subst e2
        cbv
        ((try cbv) <;> (repeat ((with_reducible refine EW.of ?_); cbv)))
        refine ⟨Ent.of (hP ▸ Try.func46) rfl, ?_⟩
        refine TC1.call [] h46 ?_
        cbv
        (repeat (first | exact trivial | refine And.intro (Emb.Pur _ _) ?_ | refine And.intro rfl ?_ | refine And.intro (Pur.mk rfl) ?_ | refine And.intro (Pur.mk (by assumption)) ?_))
        ((try cbv) <;> (repeat ((with_reducible refine EW.of ?_); cbv)))
        obtain ⟨S2, hS2⟩ : ∃ S2 : Store → LI Unit, S2 = fun L => ⟨fun x => [(16, .int .i64 0), (15, .int .i64 0), (4, .slt 9 []), (3, .bool true), (0, .yield 2), (1, .ref 1 1 0 0)], fun x => L, fun _ => True, fun _ => 0⟩ := ⟨_, rfl⟩
        refine TW.loopL A (T0_ok hP) S2 _ rfl () ?_ ?_ ?_
        · rw [hS2]; exact trivial
        · rw [hS2]; cbv; (repeat (first | exact trivial | refine And.intro (Emb.Pur _ _) ?_ | refine And.intro rfl ?_ | refine And.intro (Pur.mk rfl) ?_ | refine And.intro (Pur.mk (by assumption)) ?_))
          exact ⟨A.ok_len [], Pur.mk rfl, trivial⟩
        rintro ⟨⟩ hj2 I2 l1 L1 f0 f1 f2
        rw [hS2] at f1 f2
        dsimp only at f1 f2
        subst f1 f2
        cbv
        ((try cbv) <;> (repeat ((with_reducible refine EW.of ?_); cbv)))
        refine bno (ltF (Int.le_refl 0)) ?_
        cbv
        ((try cbv) <;> (repeat ((with_reducible refine EW.of ?_); cbv)))
        refine YW.of fun k0 => ?_
        cbv
        ((try cbv) <;> (repeat ((with_reducible refine EW.of ?_); cbv)))
        (refine ⟨Ent.of (hP ▸ Try.func30) rfl, ?_⟩; refine TC.pureE h30 ?_; cbv; (repeat (first | exact trivial | refine And.intro (Emb.Pur _ _) ?_ | refine And.intro rfl ?_ | refine And.intro (Pur.mk rfl) ?_ | refine And.intro (Pur.mk (by assumption)) ?_)); ((try cbv) <;> (repeat ((with_reducible refine EW.of ?_); cbv))))
        refine LM.of (l2, b2, some lc) rfl ?_ ?_ ?_
        · rw [e0, hS]
          refine ⟨by dsimp only; omega, hw2, ?_, fun h => ⟨?_, ?_⟩⟩
          · dsimp only
            cases b2 with
            | true => rw [hrc, hst rfl]
            | false => rw [hno rfl]; exact hrc
          · dsimp only at h ⊢; rw [hno h]
          · dsimp only at h ⊢; rw [hno h]; exact hsp h
        · rw [e0, hS]
          dsimp only
          cases b2 with
          | true => have := hol.2 rfl; simp; omega
          | false => have := hol.1; simp; omega
        · rw [e0, hS]
          cbv
          (repeat (first | exact trivial | refine And.intro (Emb.Pur _ _) ?_ | refine And.intro rfl ?_ | refine And.intro hnil.symm ?_))
      · obtain ⟨q, hq⟩ : ∃ q, q = lc.length := ⟨_, rfl⟩
        have h46 := Clone46c A F hP lc hlc hne q hq
        subst e2
        cbv
        ((try cbv) <;> (repeat ((with_reducible refine EW.of ?_); cbv)))
        refine ⟨Ent.of (hP ▸ Try.func46) rfl, ?_⟩
        refine TC1.call [] h46 ?_
        cbv
        (repeat (first | exact trivial | refine And.intro (Emb.Pur _ _) ?_ | refine And.intro rfl ?_ | refine And.intro (Pur.mk rfl) ?_ | refine And.intro (Pur.mk (by assumption)) ?_))
        ((try cbv) <;> (repeat ((with_reducible refine EW.of ?_); cbv)))
        obtain ⟨S2, hS2⟩ : ∃ S2 : Store → LI Nat, S2 = fun L => ⟨fun x => [(16, .int .i64 x), (15, .int .i64 q), (4, .row 3 9 0 q), (3, .bool true), (0, .yield 2), (1, .ref 1 1 0 0)], fun x => L, fun x => x ≤ q, fun x => q - x⟩ := ⟨_, rfl⟩
        refine TW.loopL A (T0_ok hP) S2 _ rfl 0 ?_ ?_ ?_
        · rw [hS2]; exact Nat.zero_le _
        · rw [hS2]; cbv; (repeat (first | exact trivial | refine And.intro (Emb.Pur _ _) ?_ | refine And.intro rfl ?_ | refine And.intro (Pur.mk rfl) ?_ | refine And.intro (Pur.mk (by assumption)) ?_))
          exact ⟨A.ok_nat q, trivial⟩
        rintro j hj2 I2 l1 L1 f0 f1 f2
        rw [hS2] at hj2 f1 f2
        dsimp only at hj2 f1 f2
        subst f1 f2
        cbv
        ((try cbv) <;> (repeat ((with_reducible refine EW.of ?_); cbv)))
        refine bsplit (fun h => ?_) (fun h => ?_)
        · have h : j < q := lt_nt h rfl rfl
          obtain ⟨x, hx⟩ : ∃ x, lc[j]? = some x := ⟨_, List.getElem?_eq_getElem (by omega)⟩
          have hcx := hcp j x hx
          have hgx := F.l.get hx
          obtain ⟨op1, id1, par1, pl1, tx1, ⟨i1, k1, s1, ks1⟩⟩ := x
          rw [F.v E] at hcx hgx
          have hset : F.l.l lc = (F.l.l lc).set j (.agg [.int .i8 op1, .int .i64 id1, .int .i64 par1, .int .i64 pl1, .str tx1, .int .i64 i1, .int .i64 k1, .str s1, .sl 4 (E.tree.l ks1)]) := (List.ext_getElem? fun y => by
            by_cases hy : j = y
            · subst hy; rw [List.getElem?_set_self (List.getElem?_eq_some_iff.1 hgx).1, hgx]
            · rw [List.getElem?_set_ne hy])
          ((try cbv) <;> (repeat ((with_reducible refine EW.of ?_); cbv)))
          refine ⟨j, rfl, h, ?_⟩
          rw [Nat.zero_add]
          cbv
          refine ⟨_, hgx, ?_⟩
          cbv
          (refine ⟨Ent.of (hP ▸ Try.func40) rfl, ?_⟩; refine TC.pureE hcx ?_; cbv; (repeat (first | exact trivial | refine And.intro (Emb.Pur _ _) ?_ | refine And.intro rfl ?_ | refine And.intro (Pur.mk rfl) ?_ | refine And.intro (Pur.mk (by assumption)) ?_)); ((try cbv) <;> (repeat ((with_reducible refine EW.of ?_); cbv))))
          refine ⟨j, rfl, h, ?_⟩
          rw [Nat.zero_add]
          cbv
          refine ⟨_, _, hgx, hset, by rfl, ?_⟩
          cbv
          ((try cbv) <;> (repeat ((with_reducible refine EW.of ?_); cbv)))
          refine LM.of (j + 1) rfl ?_ ?_ ?_
          · rw [f0, hS2]; exact h
          · rw [f0, hS2]; show q - (j + 1) < q - j; omega
          · rw [f0, hS2]; (cbv; (repeat (first | exact trivial | refine And.intro (Emb.Pur _ _) ?_ | refine And.intro rfl ?_ | refine And.intro (Pur.mk rfl) ?_ | refine And.intro (Pur.mk (by assumption)) ?_)); refine And.intro (inc_eq A (by omega)) ?_; (repeat (first | exact trivial | refine And.intro (Emb.Pur _ _) ?_ | refine And.intro rfl ?_ | refine And.intro (Pur.mk rfl) ?_ | refine And.intro (Pur.mk (by assumption)) ?_)))
        · have h : q ≤ j := lt_nf h rfl rfl
          ((try cbv) <;> (repeat ((with_reducible refine EW.of ?_); cbv)))
          cbv
          ((try cbv) <;> (repeat ((with_reducible refine EW.of ?_); cbv)))
          refine YW.of fun k0 => ?_
          cbv
          ((try cbv) <;> (repeat ((with_reducible refine EW.of ?_); cbv)))
          (refine ⟨Ent.of (hP ▸ Try.func30) rfl, ?_⟩; refine TC.pureE h30 ?_; cbv; (repeat (first | exact trivial | refine And.intro (Emb.Pur _ _) ?_ | refine And.intro rfl ?_ | refine And.intro (Pur.mk rfl) ?_ | refine And.intro (Pur.mk (by assumption)) ?_)); ((try cbv) <;> (repeat ((with_reducible refine EW.of ?_); cbv))))
          refine LM.of (l2, b2, some lc) rfl ?_ ?_ ?_
          · rw [e0, hS]
            refine ⟨by dsimp only; omega, hw2, ?_, fun h => ⟨?_, ?_⟩⟩
            · dsimp only
              cases b2 with
              | true => rw [hrc, hst rfl]
              | false => rw [hno rfl]; exact hrc
            · dsimp only at h ⊢; rw [hno h]
            · dsimp only at h ⊢; rw [hno h]; exact hsp h
          · rw [e0, hS]
            dsimp only
            cases b2 with
            | true => have := hol.2 rfl; simp; omega
            | false => have := hol.1; simp; omega
          · rw [e0, hS]
            cbv
            (repeat (first | exact trivial | refine And.intro (Emb.Pur _ _) ?_ | refine And.intro rfl ?_ | refine And.intro (F.l.cut hq) ?_))
end Go.Proofs.Ytaieiigfheabfaa
