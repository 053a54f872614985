import Derived.Test.YtmbbdabcbnemiaaRl
/-! Rows of steps behind bytes, by the program. -/
namespace Go.Proofs.Ytmbbdabcbnemiaa
open Go.Proofs.Ytmbbdabcbnemiaa.Tw
set_option maxHeartbeats 4000000 in
theorem Steps16 (A : Ar) (E : Em) (B : EmB) (F : EmS) {P : Program} (hP : P = Try.prog) (l : List Stp) (xs r : List UInt8) (hr : xs ++ (numBs l.length ++ stepsBs l) = r) (hb : r.length ≤ 100000000) :
    TPure P 16 [.sl 1 (B.l.l xs), .sl 9 (F.l.l l)] (.sl 1 (B.l.l r)) := by
  have hfl := F.l.len l
  have hlk : A.len (F.l.l l) = (l.length : Int) := by rw [A.ok_len, hfl]
  have hrl := app_len hr
  rw [List.length_append, numBs_len] at hrl
  have hge := stepsBs_ge l
  obtain ⟨x0, hx0⟩ : ∃ x0, xs ++ numBs (A.len (F.l.l l)) = x0 := ⟨_, rfl⟩
  rw [← hlk, ← List.append_assoc, hx0] at hr
  have hl0 := app_len hx0
  rw [numBs_len] at hl0
  have hl5 := app_len hr
  obtain ⟨q0, hq0⟩ : ∃ q, q = x0.length := ⟨_, rfl⟩
  obtain ⟨S, hS⟩ : ∃ S : LI (Nat × Nat × List UInt8), S = ⟨fun x => [(16, .int .i64 x.1), (15, .int .i64 (A.len (F.l.l l))), (4, .nils), (0, .row 0 1 0 x.2.1), (1, .sl 9 (F.l.l l))], fun x => [some (.arr 1 (B.l.l x.2.2))], fun x => x.1 ≤ l.length ∧ x.2.1 = x.2.2.length ∧ x.2.2 = x0 ++ stepsBs (l.take x.1), fun x => l.length - x.1⟩ := ⟨_, rfl⟩
  by_cases h0 : xs = []
  · subst h0
    rw [B.l.nil]
    rw [List.nil_append] at hx0
    have h38 := own38n A hP
    have c1 := number37n A B hP (A.len (F.l.l l)) x0 hx0
    rw [show (8 : Nat) = q0 by rw [hq0, hl0]; rfl] at c1
    refine TPure.ofE A T0 (T0_ok hP) (hP ▸ Try.func16) rfl _ rfl (by simp) ?_
    cbv
    ((try cbv) <;> (repeat ((with_reducible refine EW.of ?_); cbv)))
    (refine ⟨Ent.of (hP ▸ Try.func38) rfl, ?_⟩; refine TC.pureE h38 ?_; cbv; (repeat (first | exact trivial | refine And.intro (Emb.Pur _ _) ?_ | refine And.intro rfl ?_ | refine And.intro (Pur.mk rfl) ?_ | refine And.intro (Pur.mk (by assumption)) ?_)); ((try cbv) <;> (repeat ((with_reducible refine EW.of ?_); cbv))))
    refine ⟨Ent.of (hP ▸ Try.func37) rfl, ?_⟩
    refine TC1.call [] c1 ?_
    cbv
    (repeat (first | exact trivial | refine And.intro (Emb.Pur _ _) ?_ | refine And.intro rfl ?_))
    ((try cbv) <;> (repeat ((with_reducible refine EW.of ?_); cbv)))
    refine TW.loopM A (T0_ok hP) S _ rfl (0, q0, x0) ?_ ?_ ?_
    · rw [hS]; exact ⟨Nat.zero_le _, hq0, by rw [List.take_zero, stepsBs, List.append_nil]⟩
    · rw [hS]
      cbv
      (repeat (first | exact trivial | refine And.intro (Emb.Pur _ _) ?_ | refine And.intro rfl ?_))
    rintro ⟨j, m, cur⟩ hj l1 L1 e1 e2
    rw [hS] at hj e1 e2
    dsimp only at hj e1 e2
    obtain ⟨hj, hm, hl⟩ := hj
    subst e1 e2
    cbv
    ((try cbv) <;> (repeat ((with_reducible refine EW.of ?_); cbv)))
    refine bsplit (fun h => ?_) (fun h => ?_)
    · have h : j < l.length := lt_nt h rfl hlk
      obtain ⟨x, ht⟩ : ∃ x, l[j]? = some x := ⟨_, List.getElem?_eq_getElem h⟩
      have hnx := stepsBs_take ht
      have hle := stepsBs_le l (j + 1)
      have hget := F.l.get ht
      obtain ⟨op, id, par, pl, text, i, k, s, ks⟩ := x
      rw [F.v E] at hget
      obtain ⟨y0, hy0⟩ : ∃ y, cur ++ [opB op] = y := ⟨_, rfl⟩
      obtain ⟨y1, hy1⟩ : ∃ y, y0 ++ numBs id = y := ⟨_, rfl⟩
      obtain ⟨y2, hy2⟩ : ∃ y, y1 ++ numBs par = y := ⟨_, rfl⟩
      obtain ⟨y3, hy3⟩ : ∃ y, y2 ++ numBs pl = y := ⟨_, rfl⟩
      obtain ⟨y4, hy4⟩ : ∃ y, y3 ++ (numBs text.size ++ text.data.toList) = y := ⟨_, rfl⟩
      obtain ⟨y5, hy5⟩ : ∃ y, y4 ++ nodeBs (.node i k s ks) = y := ⟨_, rfl⟩
      have hl2' : y5 = x0 ++ stepsBs (l.take (j + 1)) := by
        rw [hnx, ← List.append_assoc, ← hl, stepBs, ← List.append_assoc, hy0, ← List.append_assoc, hy1, ← List.append_assoc, hy2, ← List.append_assoc, hy3, ← List.append_assoc, hy4, hy5]
      have hlen2 : y5.length = x0.length + (stepsBs (l.take (j + 1))).length := by rw [hl2', List.length_append]
      have g0 := app_len hy0
      have g1 := app_len hy1
      have g2 := app_len hy2
      have g3 := app_len hy3
      have g4 := app_len hy4
      have g5 := app_len hy5
      rw [numBs_len] at g1 g2 g3
      rw [text_len] at g4
      rw [show [opB op].length = 1 from rfl] at g0
      obtain ⟨k0, hk0⟩ : ∃ q, q = y0.length := ⟨_, rfl⟩
      obtain ⟨k1, hk1⟩ : ∃ q, q = y1.length := ⟨_, rfl⟩
      obtain ⟨k2, hk2⟩ : ∃ q, q = y2.length := ⟨_, rfl⟩
      obtain ⟨k3, hk3⟩ : ∃ q, q = y3.length := ⟨_, rfl⟩
      obtain ⟨k4, hk4⟩ : ∃ q, q = y4.length := ⟨_, rfl⟩
      obtain ⟨k5, hk5⟩ : ∃ q, q = y5.length := ⟨_, rfl⟩
      have c1 := number37r A B hP y0 k0 hk0 id y1 hy1 k1 hk1 (by omega)
      have c2 := number37r A B hP y1 k1 hk1 par y2 hy2 k2 hk2 (by omega)
      have c3 := number37r A B hP y2 k2 hk2 pl y3 hy3 k3 hk3 (by omega)
      have c4 := text39r A B hP y3 k3 hk3 text y4 hy4 k4 hk4 (by omega)
      have c5 := node40r A E B hP _ i k s ks (Nat.le_refl _) y4 k4 hk4 y5 hy5 k5 hk5 (by omega)
      have hy0' : B.l.l y0 = B.l.l cur ++ [.int .u8 (A.wrap .u8 op)] := by rw [← hy0, B.l.app, B.l.cons, B.l.nil, opB_op A B]
      have hll := B.l.len cur
      ((try cbv) <;> (repeat ((with_reducible refine EW.of ?_); cbv)))
      refine ⟨j, _, rfl, hget, ?_⟩
      cbv
      ((try cbv) <;> (repeat ((with_reducible refine EW.of ?_); cbv)))
      refine ⟨⟨rfl⟩, k0, B.l.l y0, by rw [hk0, g0, hm]; rfl, by rw [hy0', List.take_of_length_le (show (B.l.l cur).length ≤ m by omega)], (show m ≤ (B.l.l cur).length by omega), by show k0 * 1 ≤ _; omega, by omega, ?_⟩
      cbv
      ((try cbv) <;> (repeat ((with_reducible refine EW.of ?_); cbv)))
      (refine TW.draw (A := A) (T0_ok hP) (hP ▸ follows_mixed) (by kernel_rfl) rfl ?_; cbv)
      ((try cbv) <;> (repeat ((with_reducible refine EW.of ?_); cbv)))
      obtain ⟨S2, hS2⟩ : ∃ S2 : LI (Nat × Nat × List UInt8), S2 = ⟨fun x => [(43, .int .i64 x.1), (42, .agg [.int .i64 id, .int .i64 par, .int .i64 pl]), (16, .int .i64 j), (15, .int .i64 (A.len (F.l.l l))), (6, .imm [.int .i8 op, .int .i64 id, .int .i64 par, .int .i64 pl, .str text, .int .i64 i, .int .i64 k, .str s, .sl 4 (E.tree.l ks)]), (4, .nils), (0, .row 0 1 0 x.2.1), (1, .sl 9 (F.l.l l))], fun x => [some (.arr 1 (B.l.l x.2.2))], fun x => x = (0, k0, y0) ∨ x = (1, k1, y1) ∨ x = (2, k2, y2) ∨ x = (3, k3, y3), fun x => 3 - x.1⟩ := ⟨_, rfl⟩
      refine TW.loopM A (T0_ok hP) S2 _ rfl (0, k0, y0) ?_ ?_ ?_
      · rw [hS2]; exact .inl rfl
      · rw [hS2]
        cbv
        (repeat (first | exact trivial | refine And.intro (Emb.Pur _ _) ?_ | refine And.intro rfl ?_ | refine And.intro (Pur.mk (by (repeat (first | exact rfl | exact Emb.purL _ _ | assumption | apply pur_cons | apply pur_sl | apply pur_slt | apply pur_agg | apply pur_tup)))) ?_))
      intro x hx l1 L1 e1 e2
      rw [hS2] at hx e1 e2
      dsimp only at hx e1 e2
      rcases hx with rfl | rfl | rfl | rfl
      · subst e1 e2
        cbv
        ((try cbv) <;> (repeat ((with_reducible refine EW.of ?_); cbv)))
        refine byes (ltT (by decide)) ?_
        ((try cbv) <;> (repeat ((with_reducible refine EW.of ?_); cbv)))
        refine ⟨0, rfl, by decide, ?_⟩
        cbv
        ((try cbv) <;> (repeat ((with_reducible refine EW.of ?_); cbv)))
        refine ⟨Ent.of (hP ▸ Try.func37) rfl, ?_⟩
        refine TC1.call [0] c1 ?_
        cbv
        (repeat (first | exact trivial | refine And.intro (Emb.Pur _ _) ?_ | refine And.intro rfl ?_))
        ((try cbv) <;> (repeat ((with_reducible refine EW.of ?_); cbv)))
        refine LM.of (1, k1, y1) rfl ?_ ?_ ?_
        · rw [hS2]; exact .inr (.inl rfl)
        · rw [hS2]; show 3 - 1 < 3 - 0; decide
        · rw [hS2]
          cbv
          (repeat (first | exact trivial | refine And.intro (Emb.Pur _ _) ?_ | refine And.intro rfl ?_ | refine And.intro (Pur.mk (by (repeat (first | exact rfl | exact Emb.purL _ _ | assumption | apply pur_cons | apply pur_sl | apply pur_slt | apply pur_agg | apply pur_tup)))) ?_ | refine And.intro (inc_eq A (i := 0) (by omega)) ?_))
      · subst e1 e2
        cbv
        ((try cbv) <;> (repeat ((with_reducible refine EW.of ?_); cbv)))
        refine byes (ltT (by decide)) ?_
        ((try cbv) <;> (repeat ((with_reducible refine EW.of ?_); cbv)))
        refine ⟨1, rfl, by decide, ?_⟩
        cbv
        ((try cbv) <;> (repeat ((with_reducible refine EW.of ?_); cbv)))
        refine ⟨Ent.of (hP ▸ Try.func37) rfl, ?_⟩
        refine TC1.call [0] c2 ?_
        cbv
        (repeat (first | exact trivial | refine And.intro (Emb.Pur _ _) ?_ | refine And.intro rfl ?_))
        ((try cbv) <;> (repeat ((with_reducible refine EW.of ?_); cbv)))
        refine LM.of (2, k2, y2) rfl ?_ ?_ ?_
        · rw [hS2]; exact .inr (.inr (.inl rfl))
        · rw [hS2]; show 3 - 2 < 3 - 1; decide
        · rw [hS2]
          cbv
          (repeat (first | exact trivial | refine And.intro (Emb.Pur _ _) ?_ | refine And.intro rfl ?_ | refine And.intro (Pur.mk (by (repeat (first | exact rfl | exact Emb.purL _ _ | assumption | apply pur_cons | apply pur_sl | apply pur_slt | apply pur_agg | apply pur_tup)))) ?_ | refine And.intro (inc_eq A (i := 1) (by omega)) ?_))
      · subst e1 e2
        cbv
        ((try cbv) <;> (repeat ((with_reducible refine EW.of ?_); cbv)))
        refine byes (ltT (by decide)) ?_
        ((try cbv) <;> (repeat ((with_reducible refine EW.of ?_); cbv)))
        refine ⟨2, rfl, by decide, ?_⟩
        cbv
        ((try cbv) <;> (repeat ((with_reducible refine EW.of ?_); cbv)))
        refine ⟨Ent.of (hP ▸ Try.func37) rfl, ?_⟩
        refine TC1.call [0] c3 ?_
        cbv
        (repeat (first | exact trivial | refine And.intro (Emb.Pur _ _) ?_ | refine And.intro rfl ?_))
        ((try cbv) <;> (repeat ((with_reducible refine EW.of ?_); cbv)))
        refine LM.of (3, k3, y3) rfl ?_ ?_ ?_
        · rw [hS2]; exact .inr (.inr (.inr rfl))
        · rw [hS2]; show 3 - 3 < 3 - 2; decide
        · rw [hS2]
          cbv
          (repeat (first | exact trivial | refine And.intro (Emb.Pur _ _) ?_ | refine And.intro rfl ?_ | refine And.intro (Pur.mk (by (repeat (first | exact rfl | exact Emb.purL _ _ | assumption | apply pur_cons | apply pur_sl | apply pur_slt | apply pur_agg | apply pur_tup)))) ?_ | refine And.intro (inc_eq A (i := 2) (by omega)) ?_))
      · subst e1 e2
        cbv
        ((try cbv) <;> (repeat ((with_reducible refine EW.of ?_); cbv)))
        refine bno (ltF (by decide)) ?_
        ((try cbv) <;> (repeat ((with_reducible refine EW.of ?_); cbv)))
        (refine TW.drawC (A := A) [] _ [(5, [none, some (.arr 1 (B.l.l y4))]), (9, [none, none, some (.arr 1 (B.l.l y5))])] rfl (T0_ok hP) (hP ▸ follows_mixed) (by kernel_rfl) rfl (by kernel_rfl) (by cbv) (by first | kernel_rfl | cbv) rfl rfl rfl ?_; cbv)
        refine And.intro (Ent.of (hP ▸ Try.func39) rfl) ⟨.row 1 1 0 k4, [none, some (.arr 1 (B.l.l y4))], TC1.call [0] c4 ?_, ⟨rfl, ?_⟩⟩
        · skip
          cbv
          (repeat (first | exact trivial | refine And.intro (Emb.Pur _ _) ?_ | refine And.intro rfl ?_))
        cbv
        refine And.intro (Ent.of (hP ▸ Try.func40) rfl) ⟨.row 2 1 0 k5, [none, none, some (.arr 1 (B.l.l y5))], TC1.call [1] c5 ?_, ⟨rfl, ?_⟩⟩
        · skip
          cbv
          (repeat (first | exact trivial | refine And.intro (Emb.Pur _ _) ?_ | refine And.intro rfl ?_))
        cbv
        ((try cbv) <;> (repeat ((with_reducible refine EW.of ?_); cbv)))
        refine LM.of (j + 1, k5, y5) rfl ?_ ?_ ?_
        · rw [hS]; exact ⟨by show j + 1 ≤ l.length; omega, hk5, hl2'⟩
        · rw [hS]; show l.length - (j + 1) < l.length - j; omega
        · rw [hS]
          cbv
          (repeat (first | exact trivial | refine And.intro (Emb.Pur _ _) ?_ | refine And.intro (inc_eq A (by omega)) ?_ | refine And.intro rfl ?_))
    · have h : l.length ≤ j := lt_nf h rfl hlk
      obtain rfl : cur = r := by rw [hl, List.take_of_length_le (by omega), hr]
      ((try cbv) <;> (repeat ((with_reducible refine EW.of ?_); cbv)))
      exact And.intro (B.l.cut hm) (And.intro (B.l.Pur _) trivial)
  · obtain ⟨k0, hk0⟩ : ∃ k, k = xs.length := ⟨_, rfl⟩
    have h38 := own38 A B hP xs (by omega) h0 k0 hk0
    have c1 := number37r A B hP xs k0 hk0 (A.len (F.l.l l)) x0 hx0 q0 hq0 (by omega)
    refine TPure.ofE A T0 (T0_ok hP) (hP ▸ Try.func16) rfl _ rfl (by simp) ?_
    cbv
    ((try cbv) <;> (repeat ((with_reducible refine EW.of ?_); cbv)))
    refine ⟨Ent.of (hP ▸ Try.func38) rfl, ?_⟩
    refine TC1.call [] h38 ?_
    cbv
    (repeat (first | exact trivial | refine And.intro (Emb.Pur _ _) ?_ | refine And.intro rfl ?_))
    ((try cbv) <;> (repeat ((with_reducible refine EW.of ?_); cbv)))
    refine ⟨Ent.of (hP ▸ Try.func37) rfl, ?_⟩
    refine TC1.call [0] c1 ?_
    cbv
    (repeat (first | exact trivial | refine And.intro (Emb.Pur _ _) ?_ | refine And.intro rfl ?_))
    ((try cbv) <;> (repeat ((with_reducible refine EW.of ?_); cbv)))
    refine TW.loopM A (T0_ok hP) S _ rfl (0, q0, x0) ?_ ?_ ?_
    · rw [hS]; exact ⟨Nat.zero_le _, hq0, by rw [List.take_zero, stepsBs, List.append_nil]⟩
    · rw [hS]
      cbv
      (repeat (first | exact trivial | refine And.intro (Emb.Pur _ _) ?_ | refine And.intro rfl ?_))
    rintro ⟨j, m, cur⟩ hj l1 L1 e1 e2
    rw [hS] at hj e1 e2
    dsimp only at hj e1 e2
    obtain ⟨hj, hm, hl⟩ := hj
    subst e1 e2
    cbv
    ((try cbv) <;> (repeat ((with_reducible refine EW.of ?_); cbv)))
    refine bsplit (fun h => ?_) (fun h => ?_)
    · have h : j < l.length := lt_nt h rfl hlk
      obtain ⟨x, ht⟩ : ∃ x, l[j]? = some x := ⟨_, List.getElem?_eq_getElem h⟩
      have hnx := stepsBs_take ht
      have hle := stepsBs_le l (j + 1)
      have hget := F.l.get ht
      obtain ⟨op, id, par, pl, text, i, k, s, ks⟩ := x
      rw [F.v E] at hget
      obtain ⟨y0, hy0⟩ : ∃ y, cur ++ [opB op] = y := ⟨_, rfl⟩
      obtain ⟨y1, hy1⟩ : ∃ y, y0 ++ numBs id = y := ⟨_, rfl⟩
      obtain ⟨y2, hy2⟩ : ∃ y, y1 ++ numBs par = y := ⟨_, rfl⟩
      obtain ⟨y3, hy3⟩ : ∃ y, y2 ++ numBs pl = y := ⟨_, rfl⟩
      obtain ⟨y4, hy4⟩ : ∃ y, y3 ++ (numBs text.size ++ text.data.toList) = y := ⟨_, rfl⟩
      obtain ⟨y5, hy5⟩ : ∃ y, y4 ++ nodeBs (.node i k s ks) = y := ⟨_, rfl⟩
      have hl2' : y5 = x0 ++ stepsBs (l.take (j + 1)) := by
        rw [hnx, ← List.append_assoc, ← hl, stepBs, ← List.append_assoc, hy0, ← List.append_assoc, hy1, ← List.append_assoc, hy2, ← List.append_assoc, hy3, ← List.append_assoc, hy4, hy5]
      have hlen2 : y5.length = x0.length + (stepsBs (l.take (j + 1))).length := by rw [hl2', List.length_append]
      have g0 := app_len hy0
      have g1 := app_len hy1
      have g2 := app_len hy2
      have g3 := app_len hy3
      have g4 := app_len hy4
      have g5 := app_len hy5
      rw [numBs_len] at g1 g2 g3
      rw [text_len] at g4
      rw [show [opB op].length = 1 from rfl] at g0
      obtain ⟨k0, hk0⟩ : ∃ q, q = y0.length := ⟨_, rfl⟩
      obtain ⟨k1, hk1⟩ : ∃ q, q = y1.length := ⟨_, rfl⟩
      obtain ⟨k2, hk2⟩ : ∃ q, q = y2.length := ⟨_, rfl⟩
      obtain ⟨k3, hk3⟩ : ∃ q, q = y3.length := ⟨_, rfl⟩
      obtain ⟨k4, hk4⟩ : ∃ q, q = y4.length := ⟨_, rfl⟩
      obtain ⟨k5, hk5⟩ : ∃ q, q = y5.length := ⟨_, rfl⟩
      have c1 := number37r A B hP y0 k0 hk0 id y1 hy1 k1 hk1 (by omega)
      have c2 := number37r A B hP y1 k1 hk1 par y2 hy2 k2 hk2 (by omega)
      have c3 := number37r A B hP y2 k2 hk2 pl y3 hy3 k3 hk3 (by omega)
      have c4 := text39r A B hP y3 k3 hk3 text y4 hy4 k4 hk4 (by omega)
      have c5 := node40r A E B hP _ i k s ks (Nat.le_refl _) y4 k4 hk4 y5 hy5 k5 hk5 (by omega)
      have hy0' : B.l.l y0 = B.l.l cur ++ [.int .u8 (A.wrap .u8 op)] := by rw [← hy0, B.l.app, B.l.cons, B.l.nil, opB_op A B]
      have hll := B.l.len cur
      ((try cbv) <;> (repeat ((with_reducible refine EW.of ?_); cbv)))
      refine ⟨j, _, rfl, hget, ?_⟩
      cbv
      ((try cbv) <;> (repeat ((with_reducible refine EW.of ?_); cbv)))
      refine ⟨⟨rfl⟩, k0, B.l.l y0, by rw [hk0, g0, hm]; rfl, by rw [hy0', List.take_of_length_le (show (B.l.l cur).length ≤ m by omega)], (show m ≤ (B.l.l cur).length by omega), by show k0 * 1 ≤ _; omega, by omega, ?_⟩
      cbv
      ((try cbv) <;> (repeat ((with_reducible refine EW.of ?_); cbv)))
      (refine TW.draw (A := A) (T0_ok hP) (hP ▸ follows_mixed) (by kernel_rfl) rfl ?_; cbv)
      ((try cbv) <;> (repeat ((with_reducible refine EW.of ?_); cbv)))
      obtain ⟨S2, hS2⟩ : ∃ S2 : LI (Nat × Nat × List UInt8), S2 = ⟨fun x => [(43, .int .i64 x.1), (42, .agg [.int .i64 id, .int .i64 par, .int .i64 pl]), (16, .int .i64 j), (15, .int .i64 (A.len (F.l.l l))), (6, .imm [.int .i8 op, .int .i64 id, .int .i64 par, .int .i64 pl, .str text, .int .i64 i, .int .i64 k, .str s, .sl 4 (E.tree.l ks)]), (4, .nils), (0, .row 0 1 0 x.2.1), (1, .sl 9 (F.l.l l))], fun x => [some (.arr 1 (B.l.l x.2.2))], fun x => x = (0, k0, y0) ∨ x = (1, k1, y1) ∨ x = (2, k2, y2) ∨ x = (3, k3, y3), fun x => 3 - x.1⟩ := ⟨_, rfl⟩
      refine TW.loopM A (T0_ok hP) S2 _ rfl (0, k0, y0) ?_ ?_ ?_
      · rw [hS2]; exact .inl rfl
      · rw [hS2]
        cbv
        (repeat (first | exact trivial | refine And.intro (Emb.Pur _ _) ?_ | refine And.intro rfl ?_ | refine And.intro (Pur.mk (by (repeat (first | exact rfl | exact Emb.purL _ _ | assumption | apply pur_cons | apply pur_sl | apply pur_slt | apply pur_agg | apply pur_tup)))) ?_))
      intro x hx l1 L1 e1 e2
      rw [hS2] at hx e1 e2
      dsimp only at hx e1 e2
      rcases hx with rfl | rfl | rfl | rfl
      · subst e1 e2
        cbv
        ((try cbv) <;> (repeat ((with_reducible refine EW.of ?_); cbv)))
        refine byes (ltT (by decide)) ?_
        ((try cbv) <;> (repeat ((with_reducible refine EW.of ?_); cbv)))
        refine ⟨0, rfl, by decide, ?_⟩
        cbv
        ((try cbv) <;> (repeat ((with_reducible refine EW.of ?_); cbv)))
        refine ⟨Ent.of (hP ▸ Try.func37) rfl, ?_⟩
        refine TC1.call [0] c1 ?_
        cbv
        (repeat (first | exact trivial | refine And.intro (Emb.Pur _ _) ?_ | refine And.intro rfl ?_))
        ((try cbv) <;> (repeat ((with_reducible refine EW.of ?_); cbv)))
        refine LM.of (1, k1, y1) rfl ?_ ?_ ?_
        · rw [hS2]; exact .inr (.inl rfl)
        · rw [hS2]; show 3 - 1 < 3 - 0; decide
        · rw [hS2]
          cbv
          (repeat (first | exact trivial | refine And.intro (Emb.Pur _ _) ?_ | refine And.intro rfl ?_ | refine And.intro (Pur.mk (by (repeat (first | exact rfl | exact Emb.purL _ _ | assumption | apply pur_cons | apply pur_sl | apply pur_slt | apply pur_agg | apply pur_tup)))) ?_ | refine And.intro (inc_eq A (i := 0) (by omega)) ?_))
      · subst e1 e2
        cbv
        ((try cbv) <;> (repeat ((with_reducible refine EW.of ?_); cbv)))
        refine byes (ltT (by decide)) ?_
        ((try cbv) <;> (repeat ((with_reducible refine EW.of ?_); cbv)))
        refine ⟨1, rfl, by decide, ?_⟩
        cbv
        ((try cbv) <;> (repeat ((with_reducible refine EW.of ?_); cbv)))
        refine ⟨Ent.of (hP ▸ Try.func37) rfl, ?_⟩
        refine TC1.call [0] c2 ?_
        cbv
        (repeat (first | exact trivial | refine And.intro (Emb.Pur _ _) ?_ | refine And.intro rfl ?_))
        ((try cbv) <;> (repeat ((with_reducible refine EW.of ?_); cbv)))
        refine LM.of (2, k2, y2) rfl ?_ ?_ ?_
        · rw [hS2]; exact .inr (.inr (.inl rfl))
        · rw [hS2]; show 3 - 2 < 3 - 1; decide
        · rw [hS2]
          cbv
          (repeat (first | exact trivial | refine And.intro (Emb.Pur _ _) ?_ | refine And.intro rfl ?_ | refine And.intro (Pur.mk (by (repeat (first | exact rfl | exact Emb.purL _ _ | assumption | apply pur_cons | apply pur_sl | apply pur_slt | apply pur_agg | apply pur_tup)))) ?_ | refine And.intro (inc_eq A (i := 1) (by omega)) ?_))
      · subst e1 e2
        cbv
        ((try cbv) <;> (repeat ((with_reducible refine EW.of ?_); cbv)))
        refine byes (ltT (by decide)) ?_
        ((try cbv) <;> (repeat ((with_reducible refine EW.of ?_); cbv)))
        refine ⟨2, rfl, by decide, ?_⟩
        cbv
        ((try cbv) <;> (repeat ((with_reducible refine EW.of ?_); cbv)))
        refine ⟨Ent.of (hP ▸ Try.func37) rfl, ?_⟩
        refine TC1.call [0] c3 ?_
        cbv
        (repeat (first | exact trivial | refine And.intro (Emb.Pur _ _) ?_ | refine And.intro rfl ?_))
        ((try cbv) <;> (repeat ((with_reducible refine EW.of ?_); cbv)))
        refine LM.of (3, k3, y3) rfl ?_ ?_ ?_
        · rw [hS2]; exact .inr (.inr (.inr rfl))
        · rw [hS2]; show 3 - 3 < 3 - 2; decide
        · rw [hS2]
          cbv
          (repeat (first | exact trivial | refine And.intro (Emb.Pur _ _) ?_ | refine And.intro rfl ?_ | refine And.intro (Pur.mk (by (repeat (first | exact rfl | exact Emb.purL _ _ | assumption | apply pur_cons | apply pur_sl | apply pur_slt | apply pur_agg | apply pur_tup)))) ?_ | refine And.intro (inc_eq A (i := 2) (by omega)) ?_))
      · subst e1 e2
        cbv
        ((try cbv) <;> (repeat ((with_reducible refine EW.of ?_); cbv)))
        refine bno (ltF (by decide)) ?_
        ((try cbv) <;> (repeat ((with_reducible refine EW.of ?_); cbv)))
        (refine TW.drawC (A := A) [] _ [(5, [none, some (.arr 1 (B.l.l y4))]), (9, [none, none, some (.arr 1 (B.l.l y5))])] rfl (T0_ok hP) (hP ▸ follows_mixed) (by kernel_rfl) rfl (by kernel_rfl) (by cbv) (by first | kernel_rfl | cbv) rfl rfl rfl ?_; cbv)
        refine And.intro (Ent.of (hP ▸ Try.func39) rfl) ⟨.row 1 1 0 k4, [none, some (.arr 1 (B.l.l y4))], TC1.call [0] c4 ?_, ⟨rfl, ?_⟩⟩
        · skip
          cbv
          (repeat (first | exact trivial | refine And.intro (Emb.Pur _ _) ?_ | refine And.intro rfl ?_))
        cbv
        refine And.intro (Ent.of (hP ▸ Try.func40) rfl) ⟨.row 2 1 0 k5, [none, none, some (.arr 1 (B.l.l y5))], TC1.call [1] c5 ?_, ⟨rfl, ?_⟩⟩
        · skip
          cbv
          (repeat (first | exact trivial | refine And.intro (Emb.Pur _ _) ?_ | refine And.intro rfl ?_))
        cbv
        ((try cbv) <;> (repeat ((with_reducible refine EW.of ?_); cbv)))
        refine LM.of (j + 1, k5, y5) rfl ?_ ?_ ?_
        · rw [hS]; exact ⟨by show j + 1 ≤ l.length; omega, hk5, hl2'⟩
        · rw [hS]; show l.length - (j + 1) < l.length - j; omega
        · rw [hS]
          cbv
          (repeat (first | exact trivial | refine And.intro (Emb.Pur _ _) ?_ | refine And.intro (inc_eq A (by omega)) ?_ | refine And.intro rfl ?_))
    · have h : l.length ≤ j := lt_nf h rfl hlk
      obtain rfl : cur = r := by rw [hl, List.take_of_length_le (by omega), hr]
      ((try cbv) <;> (repeat ((with_reducible refine EW.of ?_); cbv)))
      exact And.intro (B.l.cut hm) (And.intro (B.l.Pur _) trivial)
end Go.Proofs.Ytmbbdabcbnemiaa
