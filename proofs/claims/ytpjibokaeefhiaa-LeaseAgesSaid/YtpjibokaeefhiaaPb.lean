import Derived.Test.YtpjibokaeefhiaaPa
/-! The reference's tick, walked. -/
namespace Go.Proofs.Ytpjibokaeefhiaa
open Go.Proofs.Ytpjibokaeefhiaa.Tw
/-- The rows so far: none; ids and ages; and what is over. -/
inductive St3 where
  | e
  | a (n : Nat) (is ns : List Int)
  | b (n : Nat) (is ns : List Int) (q : Nat) (out : List Int)
def St3.st (E : Em) (L : Store) : St3 → Store
  | .e => L
  | .a _ is ns => L ++ [some (.arr 1 (E.int.l is)), some (.arr 1 (E.int.l ns))]
  | .b _ is ns _ out => L ++ [some (.arr 1 (E.int.l is)), some (.arr 1 (E.int.l ns)), some (.arr 1 (E.int.l out))]
def St3.r1 : St3 → AV
  | .e => .nils
  | .a n _ _ => .row 1 1 0 n
  | .b n _ _ _ _ => .row 1 1 0 n
def St3.r2 : St3 → AV
  | .e => .nils
  | .a n _ _ => .row 2 1 0 n
  | .b n _ _ _ _ => .row 2 1 0 n
def St3.r3 : St3 → AV
  | .e => .nils
  | .a _ _ _ => .nils
  | .b _ _ _ q _ => .row 3 1 0 q
def St3.tr : St3 → List Int × List Int × List Int
  | .e => ([], [], [])
  | .a _ is ns => (is, ns, [])
  | .b _ is ns _ out => (is, ns, out)
def St3.ok : St3 → Prop
  | .e => True
  | .a n is ns => n = is.length ∧ n = ns.length
  | .b n is ns q out => n = is.length ∧ n = ns.length ∧ q = out.length ∧ q ≤ n
set_option maxHeartbeats 2000000 in
theorem Tick43 (A : Ar) (E : Em) (F : EmL) {P : Program} (hP : P = Try.prog) (l : List Lease) (hl : l.length ≤ 1000000) (term : Int) (is0 ns0 : List Int) (hi0 : is0.length ≤ 1000000) (hn0 : ns0.length = is0.length) (hb : ∀ i, 0 ≤ ageS i is0 ns0 ∧ ageS i is0 ns0 ≤ 1000000000000)
    (is' ns' out : List Int) (hres : tickR term l is0 ns0 = (is', ns', out)) :
    TC1 P 43 [.ref 0 3 0 0, .sl 5 (F.l.l l)] [some (.box 3 (.agg [.int .i64 term, .sl 1 (E.int.l is0), .sl 1 (E.int.l ns0)]))] (.sl 1 (E.int.l out)) [some (.box 3 (.agg [.int .i64 term, .sl 1 (E.int.l is'), .sl 1 (E.int.l ns')]))] := by
  refine TC1.of A _ _ T0 (T0_ok hP) (hP ▸ Try.func43) rfl _ rfl (by simp) ?_
  unfold tickR at hres
  cbv
  ((try cbv) <;> (repeat ((with_reducible refine EW.of ?_); cbv)))
  obtain ⟨S, hS⟩ : ∃ S : LI (Nat × St3), S = ⟨fun x => [(8, .int .i64 x.1), (5, x.2.r1), (6, x.2.r2), (7, x.2.r3), (4, .nils), (1, .sl 5 (F.l.l l)), (0, .ref 0 3 0 0)], fun x => x.2.st E [some (.box 3 (.agg [.int .i64 term, .sl 1 (E.int.l is0), .sl 1 (E.int.l ns0)]))],
    fun x => x.1 ≤ l.length ∧ x.2.ok ∧ x.2.tr.1.length ≤ x.1 ∧ runR term (fun i => ageS i is0 ns0) x.2.tr (l.drop x.1) = (is', ns', out), fun x => l.length - x.1⟩ := ⟨_, rfl⟩
  refine TW.loopM A (T0_ok hP) S _ rfl (0, .e) ?_ ?_ ?_
  · rw [hS]; exact ⟨Nat.zero_le _, trivial, Nat.zero_le _, hres⟩
  · rw [hS]; cbv; exact ⟨E.int.Pur _, E.int.Pur _, rfl, F.l.Pur _, trivial⟩
  rintro ⟨j, o⟩ hj l1 L1 e1 e2
  rw [hS] at hj e1 e2
  dsimp only at hj e1 e2
  obtain ⟨hj, hok, hjl, hrun⟩ := hj
  obtain ⟨ow, how⟩ : ∃ ow, ow = o := ⟨_, rfl⟩
  cases o with
  | e =>
    dsimp only [St3.st, St3.r1, St3.r2, St3.r3, St3.tr, St3.ok] at e1 e2 hok hjl hrun ⊢
    subst e1 e2
    cbv
    ((try cbv) <;> (repeat ((with_reducible refine EW.of ?_); cbv)))
    refine bsplit (fun h => ?_) (fun h => ?_)
    · have h : j < (F.l.l l).length := lt_nt h rfl (A.ok_len _)
      have hll := F.l.len l
      obtain ⟨x, hx⟩ : ∃ x, l[j]? = some x := ⟨_, List.getElem?_eq_getElem (by omega)⟩
      rw [runR_drop term _ _ hx] at hrun
      obtain ⟨x1, x2, x3, x4, x5⟩ := x
      have h45 := Age45 A E hP term is0 ns0 hi0 hn0 x1
      have hb1 := hb x1
      obtain ⟨f1, hf1⟩ : ∃ f, f = ageS x1 is0 ns0 := ⟨_, rfl⟩
      have hst : ∀ s, stepR term (fun i => ageS i is0 ns0) ⟨x1, x2, x3, x4, x5⟩ s = if List.elem x1 s.1 = true then s else (s.1 ++ [x1], s.2.1 ++ [f1 + 1], if term ≤ f1 + 1 then s.2.2 ++ [x1] else s.2.2) := fun s => by rw [hf1]; rfl
      rw [hst] at hrun
      rw [← hf1] at h45 hb1
      obtain ⟨a1, ha1⟩ : ∃ a, a = f1 + 1 := ⟨_, rfl⟩
      rw [← ha1] at hrun
      clear hst hf1
      dsimp only at hrun
      ((try cbv) <;> (repeat ((with_reducible refine EW.of ?_); cbv)))
      obtain ⟨S2, hS2⟩ : ∃ S : LI (Nat × Bool), S = ⟨fun x => [(10, .int .i64 x.1), (9, .bool x.2), (8, .int .i64 j), (5, ow.r1), (6, ow.r2), (7, ow.r3), (4, .nils), (1, .sl 5 (F.l.l l)), (0, .ref 0 3 0 0)], fun _ => ow.st E [some (.box 3 (.agg [.int .i64 term, .sl 1 (E.int.l is0), .sl 1 (E.int.l ns0)]))],
        fun x => x.1 ≤ ow.tr.1.length ∧ x.2 = (ow.tr.1.take x.1).contains x1, fun x => ow.tr.1.length - x.1⟩ := ⟨_, rfl⟩
      refine TW.loopM A (T0_ok hP) S2 _ rfl (0, false) ?_ ?_ ?_
      · rw [hS2]; exact ⟨Nat.zero_le _, by simp⟩
      · rw [hS2, how]
        cbv
        (repeat (first | exact trivial | refine And.intro heq ?_ | refine And.intro (Emb.Pur _ _) ?_ | refine And.intro (inc_eq A (by omega)) ?_ | refine And.intro rfl ?_))
      rintro ⟨q1, w⟩ hq l1 L1 e1 e2
      rw [hS2] at hq
      rw [hS2, how] at e1 e2
      dsimp only [St3.st, St3.r1, St3.r2, St3.r3] at hq e1 e2
      obtain ⟨hq, hw⟩ := hq
      subst e1 e2
      cbv
      ((try cbv) <;> (repeat ((with_reducible refine EW.of ?_); cbv)))
      refine bsplit (fun h5 => ?_) (fun h5 => ?_)
      · skip
        exfalso
        have h5 : q1 < 0 := lt_nt (j := 0) h5 rfl rfl
        omega
      · skip
        rw [how] at hw
        replace hw : w = (([] : List Int).take q1).contains x1 := hw
        rw [List.take_nil] at hw
        cases w with
        | true =>
          rw [if_pos (show List.elem x1 _ = true from hw.symm)] at hrun
          ((try cbv) <;> (repeat ((with_reducible refine EW.of ?_); cbv)))
          refine LM.of (j + 1, ow) rfl ?_ ?_ ?_
          · rw [hS, how]; exact ⟨by show j + 1 ≤ _; omega, hok, Nat.le_succ_of_le hjl, hrun⟩
          · rw [hS]; show l.length - (j + 1) < l.length - j; omega
          · rw [hS, how]
            cbv
            (repeat (first | exact trivial | refine And.intro heq ?_ | refine And.intro (Emb.Pur _ _) ?_ | refine And.intro (inc_eq A (by omega)) ?_ | refine And.intro rfl ?_))
        | false =>
          rw [if_neg (show ¬ List.elem x1 _ = true from fun h => Bool.noConfusion (hw.trans h))] at hrun
          ((try cbv) <;> (repeat ((with_reducible refine EW.of ?_); cbv)))
          refine ⟨j, _, rfl, F.get hx, ?_⟩
          cbv
          ((try cbv) <;> (repeat ((with_reducible refine EW.of ?_); cbv)))
          (refine ⟨Ent.of (hP ▸ Try.func45) rfl, ?_⟩; refine TC.pureT h45 rfl ?_; cbv; (repeat (first | exact trivial | refine And.intro (Emb.Pur _ _) ?_ | refine And.intro rfl ?_ | refine And.intro (Pur.mk rfl) ?_ | refine And.intro (Pur.mk (by assumption)) ?_)); ((try cbv) <;> (repeat ((with_reducible refine EW.of ?_); cbv))))
          refine And.intro ⟨by (repeat (first | exact rfl | exact Emb.purL _ _ | assumption | apply pur_cons | apply pur_sl | apply pur_slt | apply pur_agg | apply pur_tup))⟩ ?_
          have hadd : A.op .add .i64 f1 1 = a1 := by rw [add_i64 rfl rfl (by omega) (by omega), ha1]
          obtain ⟨is1, his1⟩ : ∃ d, d = [] ++ [x1] := ⟨_, rfl⟩
          obtain ⟨ns1, hns1⟩ : ∃ d, d = [] ++ [a1] := ⟨_, rfl⟩
          obtain ⟨n1, hn1⟩ : ∃ q, q = is1.length := ⟨_, rfl⟩
          have hn2 : n1 = ns1.length := by rw [hn1, his1, hns1]; simp <;> omega
          have hn3 : is1.length ≤ j + 1 := by rw [his1]; simp <;> omega
          obtain ⟨ou1, hou1⟩ : ∃ d, d = [] ++ [x1] := ⟨_, rfl⟩
          replace hrun : runR term (fun i => ageS i is0 ns0) (is1, ns1, if term ≤ a1 then ou1 else []) (l.drop (j + 1)) = (is', ns', out) := by rw [his1, hns1, hou1]; exact hrun
          obtain ⟨q2, hq2⟩ : ∃ q, q = ou1.length := ⟨_, rfl⟩
          have hq3 : ou1.length ≤ n1 := by rw [hn1, hou1, his1]; simp <;> omega
          ((try cbv) <;> (repeat ((with_reducible refine EW.of ?_); cbv)))
          refine ⟨j, _, rfl, F.get hx, ?_⟩
          cbv
          ((try cbv) <;> (repeat ((with_reducible refine EW.of ?_); cbv)))
          refine ⟨⟨rfl⟩, n1, E.int.l is1, by rw [hn1, his1]; rfl, by rw [his1]; simp only [List.nil_append, E.int.cons, E.iv, E.int.nil]; rfl, Nat.zero_le _, ?_, ?_, ?_⟩
          · rw [hn1, his1]; simp
          · rw [hn1, his1]; simp
          cbv
          ((try cbv) <;> (repeat ((with_reducible refine EW.of ?_); cbv)))
          refine ⟨⟨rfl⟩, n1, E.int.l ns1, by rw [hn2, hns1]; rfl, by rw [hns1, ← hadd]; simp only [List.nil_append, E.int.cons, E.iv, E.int.nil]; rfl, Nat.zero_le _, ?_, ?_, ?_⟩
          · rw [hn2, hns1]; simp
          · rw [hn2, hns1]; simp
          cbv
          ((try cbv) <;> (repeat ((with_reducible refine EW.of ?_); cbv)))
          by_cases h9 : term ≤ a1
          · rw [if_pos h9] at hrun
            refine byes (leT (by rw [← hadd] at h9; exact h9)) ?_
            ((try cbv) <;> (repeat ((with_reducible refine EW.of ?_); cbv)))
            refine ⟨j, _, rfl, F.get hx, ?_⟩
            cbv
            ((try cbv) <;> (repeat ((with_reducible refine EW.of ?_); cbv)))
            refine ⟨⟨rfl⟩, q2, E.int.l ou1, by rw [hq2, hou1]; rfl, by rw [hou1]; simp only [List.nil_append, E.int.cons, E.iv, E.int.nil]; rfl, Nat.zero_le _, ?_, ?_, ?_⟩
            · rw [hq2, hou1]; simp
            · rw [hq2, hou1]; simp
            cbv
            ((try cbv) <;> (repeat ((with_reducible refine EW.of ?_); cbv)))
            refine LM.of (j + 1, .b n1 is1 ns1 q2 ou1) rfl ?_ ?_ ?_
            · rw [hS]; exact ⟨by show j + 1 ≤ _; omega, ⟨hn1, hn2, hq2, by omega⟩, (show is1.length ≤ j + 1 by omega), hrun⟩
            · rw [hS]; show l.length - (j + 1) < l.length - j; omega
            · rw [hS]
              cbv
              (repeat (first | exact trivial | refine And.intro heq ?_ | refine And.intro (Emb.Pur _ _) ?_ | refine And.intro (inc_eq A (by omega)) ?_ | refine And.intro rfl ?_))
          · rw [if_neg h9] at hrun
            refine bno (leF (by rw [← hadd] at h9; exact Int.not_le.1 h9)) ?_
            ((try cbv) <;> (repeat ((with_reducible refine EW.of ?_); cbv)))
            refine LM.of (j + 1, .a n1 is1 ns1) rfl ?_ ?_ ?_
            · rw [hS]; exact ⟨by show j + 1 ≤ _; omega, ⟨hn1, hn2⟩, (show is1.length ≤ j + 1 by omega), hrun⟩
            · rw [hS]; show l.length - (j + 1) < l.length - j; omega
            · rw [hS]
              cbv
              (repeat (first | exact trivial | refine And.intro heq ?_ | refine And.intro (Emb.Pur _ _) ?_ | refine And.intro (inc_eq A (by omega)) ?_ | refine And.intro rfl ?_))
    · have h : (F.l.l l).length ≤ j := lt_nf h rfl (A.ok_len _)
      have hll := F.l.len l
      rw [List.drop_eq_nil_of_le (show l.length ≤ j by omega)] at hrun
      unfold runR at hrun
      cases hrun
      ((try cbv) <;> (repeat ((with_reducible refine EW.of ?_); cbv)))
      refine R1.of ?_
      cbv
      exact ⟨E.int.nil.symm, E.int.nil.symm, E.int.nil.symm, trivial⟩
  | a n is ns =>
    dsimp only [St3.st, St3.r1, St3.r2, St3.r3, St3.tr, St3.ok] at e1 e2 hok hjl hrun ⊢
    subst e1 e2
    cbv
    ((try cbv) <;> (repeat ((with_reducible refine EW.of ?_); cbv)))
    refine bsplit (fun h => ?_) (fun h => ?_)
    · have h : j < (F.l.l l).length := lt_nt h rfl (A.ok_len _)
      have hll := F.l.len l
      obtain ⟨x, hx⟩ : ∃ x, l[j]? = some x := ⟨_, List.getElem?_eq_getElem (by omega)⟩
      rw [runR_drop term _ _ hx] at hrun
      obtain ⟨x1, x2, x3, x4, x5⟩ := x
      have h45 := Age45 A E hP term is0 ns0 hi0 hn0 x1
      have hb1 := hb x1
      obtain ⟨f1, hf1⟩ : ∃ f, f = ageS x1 is0 ns0 := ⟨_, rfl⟩
      have hst : ∀ s, stepR term (fun i => ageS i is0 ns0) ⟨x1, x2, x3, x4, x5⟩ s = if List.elem x1 s.1 = true then s else (s.1 ++ [x1], s.2.1 ++ [f1 + 1], if term ≤ f1 + 1 then s.2.2 ++ [x1] else s.2.2) := fun s => by rw [hf1]; rfl
      rw [hst] at hrun
      rw [← hf1] at h45 hb1
      obtain ⟨a1, ha1⟩ : ∃ a, a = f1 + 1 := ⟨_, rfl⟩
      rw [← ha1] at hrun
      clear hst hf1
      dsimp only at hrun
      ((try cbv) <;> (repeat ((with_reducible refine EW.of ?_); cbv)))
      obtain ⟨S2, hS2⟩ : ∃ S : LI (Nat × Bool), S = ⟨fun x => [(10, .int .i64 x.1), (9, .bool x.2), (8, .int .i64 j), (5, ow.r1), (6, ow.r2), (7, ow.r3), (4, .nils), (1, .sl 5 (F.l.l l)), (0, .ref 0 3 0 0)], fun _ => ow.st E [some (.box 3 (.agg [.int .i64 term, .sl 1 (E.int.l is0), .sl 1 (E.int.l ns0)]))],
        fun x => x.1 ≤ ow.tr.1.length ∧ x.2 = (ow.tr.1.take x.1).contains x1, fun x => ow.tr.1.length - x.1⟩ := ⟨_, rfl⟩
      refine TW.loopM A (T0_ok hP) S2 _ rfl (0, false) ?_ ?_ ?_
      · rw [hS2]; exact ⟨Nat.zero_le _, by simp⟩
      · rw [hS2, how]
        cbv
        (repeat (first | exact trivial | refine And.intro heq ?_ | refine And.intro (Emb.Pur _ _) ?_ | refine And.intro (inc_eq A (by omega)) ?_ | refine And.intro rfl ?_))
      rintro ⟨q1, w⟩ hq l1 L1 e1 e2
      rw [hS2] at hq
      rw [hS2, how] at e1 e2
      dsimp only [St3.st, St3.r1, St3.r2, St3.r3] at hq e1 e2
      obtain ⟨hq, hw⟩ := hq
      subst e1 e2
      cbv
      ((try cbv) <;> (repeat ((with_reducible refine EW.of ?_); cbv)))
      refine bsplit (fun h5 => ?_) (fun h5 => ?_)
      · skip
        have h5 : q1 < n := lt_nt h5 rfl (A.ok_nat n)
        obtain ⟨y, hy⟩ : ∃ y, is[q1]? = some y := ⟨_, List.getElem?_eq_getElem (by omega)⟩
        obtain ⟨w2, hw2⟩ : ∃ w2, w2 = (w || decide (y = x1)) := ⟨_, rfl⟩
        have htk : (is.take (q1 + 1)).contains x1 = w2 := by
          rw [how] at hw
          replace hw : w = (is.take q1).contains x1 := hw
          rw [hw2, hw, List.take_add_one, hy]
          by_cases e : y = x1
          · subst e; simp
          · have e' : ¬ x1 = y := fun h => e h.symm
            simp [e, e']
        ((try cbv) <;> (repeat ((with_reducible refine EW.of ?_); cbv)))
        cases w with
        | true =>
          have heq : true = w2 := hw2.symm
          (refine TW.draw (A := A) (T0_ok hP) (hP ▸ follows_mixed) (by kernel_rfl) rfl ?_; cbv)
          ((try cbv) <;> (repeat ((with_reducible refine EW.of ?_); cbv)))
          refine LM.of (q1 + 1, w2) rfl ?_ ?_ ?_
          · rw [hS2, how]; exact ⟨by show q1 + 1 ≤ is.length; omega, htk.symm⟩
          · rw [hS2, how]; show is.length - (q1 + 1) < is.length - q1; omega
          · rw [hS2, how]
            cbv
            (repeat (first | exact trivial | refine And.intro heq ?_ | refine And.intro (Emb.Pur _ _) ?_ | refine And.intro (inc_eq A (by omega)) ?_ | refine And.intro rfl ?_))
        | false =>
          (refine TW.draw (A := A) (T0_ok hP) (hP ▸ follows_mixed) (by kernel_rfl) rfl ?_; cbv)
          refine ⟨q1, rfl, h5, ?_⟩
          cbv
          have hyq := E.geti hy
          refine ⟨.int .i64 y, ?_, ?_⟩
          · clear hw hw2 htk h5 hy hq
            cases q1 with
            | zero => exact hyq
            | succ b => exact (by rw [show Nat.add 0 b = b from Nat.zero_add b]; exact hyq : (E.int.l is)[(Nat.add 0 b).succ]? = some (.int .i64 y))
          cbv
          refine ⟨j, _, rfl, F.get hx, ?_⟩
          cbv
          have heq : A.eq y x1 = w2 := by rw [A.ok_eq, hw2]; rfl
          ((try cbv) <;> (repeat ((with_reducible refine EW.of ?_); cbv)))
          refine LM.of (q1 + 1, w2) rfl ?_ ?_ ?_
          · rw [hS2, how]; exact ⟨by show q1 + 1 ≤ is.length; omega, htk.symm⟩
          · rw [hS2, how]; show is.length - (q1 + 1) < is.length - q1; omega
          · rw [hS2, how]
            cbv
            (repeat (first | exact trivial | refine And.intro heq ?_ | refine And.intro (Emb.Pur _ _) ?_ | refine And.intro (inc_eq A (by omega)) ?_ | refine And.intro rfl ?_))
      · skip
        have h5 : n ≤ q1 := lt_nf h5 rfl (A.ok_nat n)
        rw [how] at hw
        replace hw : w = (is.take q1).contains x1 := hw
        rw [List.take_of_length_le (by omega)] at hw
        cases w with
        | true =>
          rw [if_pos (show List.elem x1 _ = true from hw.symm)] at hrun
          ((try cbv) <;> (repeat ((with_reducible refine EW.of ?_); cbv)))
          refine LM.of (j + 1, ow) rfl ?_ ?_ ?_
          · rw [hS, how]; exact ⟨by show j + 1 ≤ _; omega, hok, Nat.le_succ_of_le hjl, hrun⟩
          · rw [hS]; show l.length - (j + 1) < l.length - j; omega
          · rw [hS, how]
            cbv
            (repeat (first | exact trivial | refine And.intro heq ?_ | refine And.intro (Emb.Pur _ _) ?_ | refine And.intro (inc_eq A (by omega)) ?_ | refine And.intro rfl ?_))
        | false =>
          rw [if_neg (show ¬ List.elem x1 _ = true from fun h => Bool.noConfusion (hw.trans h))] at hrun
          ((try cbv) <;> (repeat ((with_reducible refine EW.of ?_); cbv)))
          refine ⟨j, _, rfl, F.get hx, ?_⟩
          cbv
          ((try cbv) <;> (repeat ((with_reducible refine EW.of ?_); cbv)))
          (refine ⟨Ent.of (hP ▸ Try.func45) rfl, ?_⟩; refine TC.pureT h45 rfl ?_; cbv; (repeat (first | exact trivial | refine And.intro (Emb.Pur _ _) ?_ | refine And.intro rfl ?_ | refine And.intro (Pur.mk rfl) ?_ | refine And.intro (Pur.mk (by assumption)) ?_)); ((try cbv) <;> (repeat ((with_reducible refine EW.of ?_); cbv))))
          refine And.intro ⟨by (repeat (first | exact rfl | exact Emb.purL _ _ | assumption | apply pur_cons | apply pur_sl | apply pur_slt | apply pur_agg | apply pur_tup))⟩ ?_
          have hadd : A.op .add .i64 f1 1 = a1 := by rw [add_i64 rfl rfl (by omega) (by omega), ha1]
          obtain ⟨is1, his1⟩ : ∃ d, d = is ++ [x1] := ⟨_, rfl⟩
          obtain ⟨ns1, hns1⟩ : ∃ d, d = ns ++ [a1] := ⟨_, rfl⟩
          obtain ⟨n1, hn1⟩ : ∃ q, q = is1.length := ⟨_, rfl⟩
          have hn2 : n1 = ns1.length := by rw [hn1, his1, hns1]; simp <;> omega
          have hn3 : is1.length ≤ j + 1 := by rw [his1]; simp <;> omega
          obtain ⟨ou1, hou1⟩ : ∃ d, d = [] ++ [x1] := ⟨_, rfl⟩
          replace hrun : runR term (fun i => ageS i is0 ns0) (is1, ns1, if term ≤ a1 then ou1 else []) (l.drop (j + 1)) = (is', ns', out) := by rw [his1, hns1, hou1]; exact hrun
          obtain ⟨q2, hq2⟩ : ∃ q, q = ou1.length := ⟨_, rfl⟩
          have hq3 : ou1.length ≤ n1 := by rw [hn1, hou1, his1]; simp <;> omega
          ((try cbv) <;> (repeat ((with_reducible refine EW.of ?_); cbv)))
          refine ⟨j, _, rfl, F.get hx, ?_⟩
          cbv
          ((try cbv) <;> (repeat ((with_reducible refine EW.of ?_); cbv)))
          have hlenapp1 := E.int.len is
          have hlxapp1 : n1 = n + 1 := by rw [hn1, his1]; simp <;> omega
          refine ⟨⟨rfl⟩, n1, E.int.l is1, hlxapp1, by rw [his1]; simp only [E.int.app, E.int.cons, E.iv, E.int.nil]; rw [List.take_of_length_le (show (E.int.l is).length ≤ n by omega)]; first | done | rfl, (show n ≤ (E.int.l is).length by omega), by omega, by omega, ?_⟩
          cbv
          ((try cbv) <;> (repeat ((with_reducible refine EW.of ?_); cbv)))
          have hlenapp2 := E.int.len ns
          have hlxapp2 : n1 = n + 1 := by rw [hn2, hns1]; simp <;> omega
          refine ⟨⟨rfl⟩, n1, E.int.l ns1, hlxapp2, by rw [hns1, ← hadd]; simp only [E.int.app, E.int.cons, E.iv, E.int.nil]; rw [List.take_of_length_le (show (E.int.l ns).length ≤ n by omega)]; first | done | rfl, (show n ≤ (E.int.l ns).length by omega), by omega, by omega, ?_⟩
          cbv
          ((try cbv) <;> (repeat ((with_reducible refine EW.of ?_); cbv)))
          by_cases h9 : term ≤ a1
          · rw [if_pos h9] at hrun
            refine byes (leT (by rw [← hadd] at h9; exact h9)) ?_
            ((try cbv) <;> (repeat ((with_reducible refine EW.of ?_); cbv)))
            refine ⟨j, _, rfl, F.get hx, ?_⟩
            cbv
            ((try cbv) <;> (repeat ((with_reducible refine EW.of ?_); cbv)))
            refine ⟨⟨rfl⟩, q2, E.int.l ou1, by rw [hq2, hou1]; rfl, by rw [hou1]; simp only [List.nil_append, E.int.cons, E.iv, E.int.nil]; rfl, Nat.zero_le _, ?_, ?_, ?_⟩
            · rw [hq2, hou1]; simp
            · rw [hq2, hou1]; simp
            cbv
            ((try cbv) <;> (repeat ((with_reducible refine EW.of ?_); cbv)))
            refine LM.of (j + 1, .b n1 is1 ns1 q2 ou1) rfl ?_ ?_ ?_
            · rw [hS]; exact ⟨by show j + 1 ≤ _; omega, ⟨hn1, hn2, hq2, by omega⟩, (show is1.length ≤ j + 1 by omega), hrun⟩
            · rw [hS]; show l.length - (j + 1) < l.length - j; omega
            · rw [hS]
              cbv
              (repeat (first | exact trivial | refine And.intro heq ?_ | refine And.intro (Emb.Pur _ _) ?_ | refine And.intro (inc_eq A (by omega)) ?_ | refine And.intro rfl ?_))
          · rw [if_neg h9] at hrun
            refine bno (leF (by rw [← hadd] at h9; exact Int.not_le.1 h9)) ?_
            ((try cbv) <;> (repeat ((with_reducible refine EW.of ?_); cbv)))
            refine LM.of (j + 1, .a n1 is1 ns1) rfl ?_ ?_ ?_
            · rw [hS]; exact ⟨by show j + 1 ≤ _; omega, ⟨hn1, hn2⟩, (show is1.length ≤ j + 1 by omega), hrun⟩
            · rw [hS]; show l.length - (j + 1) < l.length - j; omega
            · rw [hS]
              cbv
              (repeat (first | exact trivial | refine And.intro heq ?_ | refine And.intro (Emb.Pur _ _) ?_ | refine And.intro (inc_eq A (by omega)) ?_ | refine And.intro rfl ?_))
    · have h : (F.l.l l).length ≤ j := lt_nf h rfl (A.ok_len _)
      have hll := F.l.len l
      rw [List.drop_eq_nil_of_le (show l.length ≤ j by omega)] at hrun
      unfold runR at hrun
      cases hrun
      ((try cbv) <;> (repeat ((with_reducible refine EW.of ?_); cbv)))
      refine R1.of ?_
      cbv
      exact ⟨E.int.cut hok.1, E.int.Pur _, E.int.cut hok.2, E.int.Pur _, E.int.nil.symm, trivial⟩
  | b n is ns q ou =>
    dsimp only [St3.st, St3.r1, St3.r2, St3.r3, St3.tr, St3.ok] at e1 e2 hok hjl hrun ⊢
    subst e1 e2
    cbv
    ((try cbv) <;> (repeat ((with_reducible refine EW.of ?_); cbv)))
    refine bsplit (fun h => ?_) (fun h => ?_)
    · have h : j < (F.l.l l).length := lt_nt h rfl (A.ok_len _)
      have hll := F.l.len l
      obtain ⟨x, hx⟩ : ∃ x, l[j]? = some x := ⟨_, List.getElem?_eq_getElem (by omega)⟩
      rw [runR_drop term _ _ hx] at hrun
      obtain ⟨x1, x2, x3, x4, x5⟩ := x
      have h45 := Age45 A E hP term is0 ns0 hi0 hn0 x1
      have hb1 := hb x1
      obtain ⟨f1, hf1⟩ : ∃ f, f = ageS x1 is0 ns0 := ⟨_, rfl⟩
      have hst : ∀ s, stepR term (fun i => ageS i is0 ns0) ⟨x1, x2, x3, x4, x5⟩ s = if List.elem x1 s.1 = true then s else (s.1 ++ [x1], s.2.1 ++ [f1 + 1], if term ≤ f1 + 1 then s.2.2 ++ [x1] else s.2.2) := fun s => by rw [hf1]; rfl
      rw [hst] at hrun
      rw [← hf1] at h45 hb1
      obtain ⟨a1, ha1⟩ : ∃ a, a = f1 + 1 := ⟨_, rfl⟩
      rw [← ha1] at hrun
      clear hst hf1
      dsimp only at hrun
      ((try cbv) <;> (repeat ((with_reducible refine EW.of ?_); cbv)))
      obtain ⟨S2, hS2⟩ : ∃ S : LI (Nat × Bool), S = ⟨fun x => [(10, .int .i64 x.1), (9, .bool x.2), (8, .int .i64 j), (5, ow.r1), (6, ow.r2), (7, ow.r3), (4, .nils), (1, .sl 5 (F.l.l l)), (0, .ref 0 3 0 0)], fun _ => ow.st E [some (.box 3 (.agg [.int .i64 term, .sl 1 (E.int.l is0), .sl 1 (E.int.l ns0)]))],
        fun x => x.1 ≤ ow.tr.1.length ∧ x.2 = (ow.tr.1.take x.1).contains x1, fun x => ow.tr.1.length - x.1⟩ := ⟨_, rfl⟩
      refine TW.loopM A (T0_ok hP) S2 _ rfl (0, false) ?_ ?_ ?_
      · rw [hS2]; exact ⟨Nat.zero_le _, by simp⟩
      · rw [hS2, how]
        cbv
        (repeat (first | exact trivial | refine And.intro heq ?_ | refine And.intro (Emb.Pur _ _) ?_ | refine And.intro (inc_eq A (by omega)) ?_ | refine And.intro rfl ?_))
      rintro ⟨q1, w⟩ hq l1 L1 e1 e2
      rw [hS2] at hq
      rw [hS2, how] at e1 e2
      dsimp only [St3.st, St3.r1, St3.r2, St3.r3] at hq e1 e2
      obtain ⟨hq, hw⟩ := hq
      subst e1 e2
      cbv
      ((try cbv) <;> (repeat ((with_reducible refine EW.of ?_); cbv)))
      refine bsplit (fun h5 => ?_) (fun h5 => ?_)
      · skip
        have h5 : q1 < n := lt_nt h5 rfl (A.ok_nat n)
        obtain ⟨y, hy⟩ : ∃ y, is[q1]? = some y := ⟨_, List.getElem?_eq_getElem (by omega)⟩
        obtain ⟨w2, hw2⟩ : ∃ w2, w2 = (w || decide (y = x1)) := ⟨_, rfl⟩
        have htk : (is.take (q1 + 1)).contains x1 = w2 := by
          rw [how] at hw
          replace hw : w = (is.take q1).contains x1 := hw
          rw [hw2, hw, List.take_add_one, hy]
          by_cases e : y = x1
          · subst e; simp
          · have e' : ¬ x1 = y := fun h => e h.symm
            simp [e, e']
        ((try cbv) <;> (repeat ((with_reducible refine EW.of ?_); cbv)))
        cases w with
        | true =>
          have heq : true = w2 := hw2.symm
          (refine TW.draw (A := A) (T0_ok hP) (hP ▸ follows_mixed) (by kernel_rfl) rfl ?_; cbv)
          ((try cbv) <;> (repeat ((with_reducible refine EW.of ?_); cbv)))
          refine LM.of (q1 + 1, w2) rfl ?_ ?_ ?_
          · rw [hS2, how]; exact ⟨by show q1 + 1 ≤ is.length; omega, htk.symm⟩
          · rw [hS2, how]; show is.length - (q1 + 1) < is.length - q1; omega
          · rw [hS2, how]
            cbv
            (repeat (first | exact trivial | refine And.intro heq ?_ | refine And.intro (Emb.Pur _ _) ?_ | refine And.intro (inc_eq A (by omega)) ?_ | refine And.intro rfl ?_))
        | false =>
          (refine TW.draw (A := A) (T0_ok hP) (hP ▸ follows_mixed) (by kernel_rfl) rfl ?_; cbv)
          refine ⟨q1, rfl, h5, ?_⟩
          cbv
          have hyq := E.geti hy
          refine ⟨.int .i64 y, ?_, ?_⟩
          · clear hw hw2 htk h5 hy hq
            cases q1 with
            | zero => exact hyq
            | succ b => exact (by rw [show Nat.add 0 b = b from Nat.zero_add b]; exact hyq : (E.int.l is)[(Nat.add 0 b).succ]? = some (.int .i64 y))
          cbv
          refine ⟨j, _, rfl, F.get hx, ?_⟩
          cbv
          have heq : A.eq y x1 = w2 := by rw [A.ok_eq, hw2]; rfl
          ((try cbv) <;> (repeat ((with_reducible refine EW.of ?_); cbv)))
          refine LM.of (q1 + 1, w2) rfl ?_ ?_ ?_
          · rw [hS2, how]; exact ⟨by show q1 + 1 ≤ is.length; omega, htk.symm⟩
          · rw [hS2, how]; show is.length - (q1 + 1) < is.length - q1; omega
          · rw [hS2, how]
            cbv
            (repeat (first | exact trivial | refine And.intro heq ?_ | refine And.intro (Emb.Pur _ _) ?_ | refine And.intro (inc_eq A (by omega)) ?_ | refine And.intro rfl ?_))
      · skip
        have h5 : n ≤ q1 := lt_nf h5 rfl (A.ok_nat n)
        rw [how] at hw
        replace hw : w = (is.take q1).contains x1 := hw
        rw [List.take_of_length_le (by omega)] at hw
        cases w with
        | true =>
          rw [if_pos (show List.elem x1 _ = true from hw.symm)] at hrun
          ((try cbv) <;> (repeat ((with_reducible refine EW.of ?_); cbv)))
          refine LM.of (j + 1, ow) rfl ?_ ?_ ?_
          · rw [hS, how]; exact ⟨by show j + 1 ≤ _; omega, hok, Nat.le_succ_of_le hjl, hrun⟩
          · rw [hS]; show l.length - (j + 1) < l.length - j; omega
          · rw [hS, how]
            cbv
            (repeat (first | exact trivial | refine And.intro heq ?_ | refine And.intro (Emb.Pur _ _) ?_ | refine And.intro (inc_eq A (by omega)) ?_ | refine And.intro rfl ?_))
        | false =>
          rw [if_neg (show ¬ List.elem x1 _ = true from fun h => Bool.noConfusion (hw.trans h))] at hrun
          ((try cbv) <;> (repeat ((with_reducible refine EW.of ?_); cbv)))
          refine ⟨j, _, rfl, F.get hx, ?_⟩
          cbv
          ((try cbv) <;> (repeat ((with_reducible refine EW.of ?_); cbv)))
          (refine ⟨Ent.of (hP ▸ Try.func45) rfl, ?_⟩; refine TC.pureT h45 rfl ?_; cbv; (repeat (first | exact trivial | refine And.intro (Emb.Pur _ _) ?_ | refine And.intro rfl ?_ | refine And.intro (Pur.mk rfl) ?_ | refine And.intro (Pur.mk (by assumption)) ?_)); ((try cbv) <;> (repeat ((with_reducible refine EW.of ?_); cbv))))
          refine And.intro ⟨by (repeat (first | exact rfl | exact Emb.purL _ _ | assumption | apply pur_cons | apply pur_sl | apply pur_slt | apply pur_agg | apply pur_tup))⟩ ?_
          have hadd : A.op .add .i64 f1 1 = a1 := by rw [add_i64 rfl rfl (by omega) (by omega), ha1]
          obtain ⟨is1, his1⟩ : ∃ d, d = is ++ [x1] := ⟨_, rfl⟩
          obtain ⟨ns1, hns1⟩ : ∃ d, d = ns ++ [a1] := ⟨_, rfl⟩
          obtain ⟨n1, hn1⟩ : ∃ q, q = is1.length := ⟨_, rfl⟩
          have hn2 : n1 = ns1.length := by rw [hn1, his1, hns1]; simp <;> omega
          have hn3 : is1.length ≤ j + 1 := by rw [his1]; simp <;> omega
          obtain ⟨ou1, hou1⟩ : ∃ d, d = ou ++ [x1] := ⟨_, rfl⟩
          replace hrun : runR term (fun i => ageS i is0 ns0) (is1, ns1, if term ≤ a1 then ou1 else ou) (l.drop (j + 1)) = (is', ns', out) := by rw [his1, hns1, hou1]; exact hrun
          obtain ⟨q2, hq2⟩ : ∃ q, q = ou1.length := ⟨_, rfl⟩
          have hq3 : ou1.length ≤ n1 := by rw [hn1, hou1, his1]; simp <;> omega
          ((try cbv) <;> (repeat ((with_reducible refine EW.of ?_); cbv)))
          refine ⟨j, _, rfl, F.get hx, ?_⟩
          cbv
          ((try cbv) <;> (repeat ((with_reducible refine EW.of ?_); cbv)))
          have hlenapp1 := E.int.len is
          have hlxapp1 : n1 = n + 1 := by rw [hn1, his1]; simp <;> omega
          refine ⟨⟨rfl⟩, n1, E.int.l is1, hlxapp1, by rw [his1]; simp only [E.int.app, E.int.cons, E.iv, E.int.nil]; rw [List.take_of_length_le (show (E.int.l is).length ≤ n by omega)]; first | done | rfl, (show n ≤ (E.int.l is).length by omega), by omega, by omega, ?_⟩
          cbv
          ((try cbv) <;> (repeat ((with_reducible refine EW.of ?_); cbv)))
          have hlenapp2 := E.int.len ns
          have hlxapp2 : n1 = n + 1 := by rw [hn2, hns1]; simp <;> omega
          refine ⟨⟨rfl⟩, n1, E.int.l ns1, hlxapp2, by rw [hns1, ← hadd]; simp only [E.int.app, E.int.cons, E.iv, E.int.nil]; rw [List.take_of_length_le (show (E.int.l ns).length ≤ n by omega)]; first | done | rfl, (show n ≤ (E.int.l ns).length by omega), by omega, by omega, ?_⟩
          cbv
          ((try cbv) <;> (repeat ((with_reducible refine EW.of ?_); cbv)))
          by_cases h9 : term ≤ a1
          · rw [if_pos h9] at hrun
            refine byes (leT (by rw [← hadd] at h9; exact h9)) ?_
            ((try cbv) <;> (repeat ((with_reducible refine EW.of ?_); cbv)))
            refine ⟨j, _, rfl, F.get hx, ?_⟩
            cbv
            ((try cbv) <;> (repeat ((with_reducible refine EW.of ?_); cbv)))
            have hlenapp3 := E.int.len ou
            have hlxapp3 : q2 = q + 1 := by rw [hq2, hou1]; simp <;> omega
            refine ⟨⟨rfl⟩, q2, E.int.l ou1, hlxapp3, by rw [hou1]; simp only [E.int.app, E.int.cons, E.iv, E.int.nil]; rw [List.take_of_length_le (show (E.int.l ou).length ≤ q by omega)]; first | done | rfl, (show q ≤ (E.int.l ou).length by omega), by omega, by omega, ?_⟩
            cbv
            ((try cbv) <;> (repeat ((with_reducible refine EW.of ?_); cbv)))
            refine LM.of (j + 1, .b n1 is1 ns1 q2 ou1) rfl ?_ ?_ ?_
            · rw [hS]; exact ⟨by show j + 1 ≤ _; omega, ⟨hn1, hn2, hq2, by omega⟩, (show is1.length ≤ j + 1 by omega), hrun⟩
            · rw [hS]; show l.length - (j + 1) < l.length - j; omega
            · rw [hS]
              cbv
              (repeat (first | exact trivial | refine And.intro heq ?_ | refine And.intro (Emb.Pur _ _) ?_ | refine And.intro (inc_eq A (by omega)) ?_ | refine And.intro rfl ?_))
          · rw [if_neg h9] at hrun
            refine bno (leF (by rw [← hadd] at h9; exact Int.not_le.1 h9)) ?_
            ((try cbv) <;> (repeat ((with_reducible refine EW.of ?_); cbv)))
            refine LM.of (j + 1, .b n1 is1 ns1 q ou) rfl ?_ ?_ ?_
            · rw [hS]; exact ⟨by show j + 1 ≤ _; omega, ⟨hn1, hn2, hok.2.2.1, by have := hok.1; omega⟩, (show is1.length ≤ j + 1 by omega), hrun⟩
            · rw [hS]; show l.length - (j + 1) < l.length - j; omega
            · rw [hS]
              cbv
              (repeat (first | exact trivial | refine And.intro heq ?_ | refine And.intro (Emb.Pur _ _) ?_ | refine And.intro (inc_eq A (by omega)) ?_ | refine And.intro rfl ?_))
    · have h : (F.l.l l).length ≤ j := lt_nf h rfl (A.ok_len _)
      have hll := F.l.len l
      rw [List.drop_eq_nil_of_le (show l.length ≤ j by omega)] at hrun
      unfold runR at hrun
      cases hrun
      ((try cbv) <;> (repeat ((with_reducible refine EW.of ?_); cbv)))
      refine R1.of ?_
      cbv
      exact ⟨E.int.cut hok.1, E.int.Pur _, E.int.cut hok.2.1, E.int.Pur _, E.int.cut hok.2.2.1, E.int.Pur _, trivial⟩
end Go.Proofs.Ytpjibokaeefhiaa
