import Derived.Test.YtaieiigfheabfaaYj
/-! normal.Pair. -/
namespace Go.Proofs.Ytaieiigfheabfaa
open Go.Proofs.Ytaieiigfheabfaa.Tw
def rulesV : List AV := [.func (.func 39) [] [.imm [.int .i8 4]], .func (.func 39) [] [.imm [.int .i8 3]], .func (.func 41) [] [], .func (.func 42) [] []]
theorem second38 (A : Ar) {P : Program} (hP : P = Try.prog) (op : Int) : TPure P 38 [.int .i8 op] (.func (.func 39) [] [.imm [.int .i8 op]]) := by
  refine TPure.ofE A T0 (T0_ok hP) (hP ▸ Try.func38) rfl _ rfl (by simp) ?_
  cbv
  ((try cbv) <;> (repeat ((with_reducible refine EW.of ?_); cbv)))
  (repeat (first | exact trivial | refine And.intro (Emb.Pur _ _) ?_ | refine And.intro rfl ?_ | refine And.intro (Pur.mk rfl) ?_ | refine And.intro (Pur.mk (by assumption)) ?_))
theorem rules25 (A : Ar) {P : Program} (hP : P = Try.prog) : TPure P 25 [] (.sl 1 rulesV) := by
  have h3 := second38 A hP 3
  have h4 := second38 A hP 4
  unfold rulesV
  refine TPure.ofE A T0 (T0_ok hP) (hP ▸ Try.func25) rfl _ rfl (by simp) ?_
  cbv
  ((try cbv) <;> (repeat ((with_reducible refine EW.of ?_); cbv)))
  (refine ⟨Ent.of (hP ▸ Try.func38) rfl, ?_⟩; refine TC.pureE h4 ?_; cbv; (repeat (first | exact trivial | refine And.intro (Emb.Pur _ _) ?_ | refine And.intro rfl ?_ | refine And.intro (Pur.mk rfl) ?_ | refine And.intro (Pur.mk (by assumption)) ?_)); ((try cbv) <;> (repeat ((with_reducible refine EW.of ?_); cbv))))
  (refine ⟨Ent.of (hP ▸ Try.func38) rfl, ?_⟩; refine TC.pureE h3 ?_; cbv; (repeat (first | exact trivial | refine And.intro (Emb.Pur _ _) ?_ | refine And.intro rfl ?_ | refine And.intro (Pur.mk rfl) ?_ | refine And.intro (Pur.mk (by assumption)) ?_)); ((try cbv) <;> (repeat ((with_reducible refine EW.of ?_); cbv))))
  exact And.intro (Pur.mk rfl) trivial
/-- What two neighbours become. -/
def pairF (a b : Stp) : Option (List Stp) :=
  if a.op = 4 ∧ b.op = 4 ∧ a.id = b.id then some [b]
  else if a.op = 3 ∧ b.op = 3 ∧ a.id = b.id then some [b]
  else if a.op = 1 ∧ b.op = 2 ∧ a.sub.id = b.id then some []
  else if a.op = 1 ∧ b.op = 4 ∧ (textT b.id b.text a.sub).2 = true then some [{ a with sub := (textT b.id b.text a.sub).1 }]
  else none
def pA (op : Int) (a b : Stp) : Bool := decide (a.op = op) && (decide (b.op = op) && decide (a.id = b.id))
def pB (a b : Stp) : Bool := decide (a.op = 1) && (decide (b.op = 2) && decide (a.sub.id = b.id))
def pC (a b : Stp) : Stp × Bool := if a.op = 1 ∧ b.op = 4 then ({ a with sub := (textT b.id b.text a.sub).1 }, (textT b.id b.text a.sub).2) else (a, false)
theorem pairF_eq (a b : Stp) : pairF a b = if pA 4 a b = true then some [b] else if pA 3 a b = true then some [b] else if pB a b = true then some [] else if (pC a b).2 = true then some [(pC a b).1] else none := by
  unfold pairF pA pB
  simp only [Bool.and_eq_true, decide_eq_true_eq]
  by_cases h1 : a.op = 4 ∧ b.op = 4 ∧ a.id = b.id
  · rw [if_pos h1, if_pos h1]
  rw [if_neg h1, if_neg h1]
  by_cases h2 : a.op = 3 ∧ b.op = 3 ∧ a.id = b.id
  · rw [if_pos h2, if_pos h2]
  rw [if_neg h2, if_neg h2]
  by_cases h3 : a.op = 1 ∧ b.op = 2 ∧ a.sub.id = b.id
  · rw [if_pos h3, if_pos h3]
  rw [if_neg h3, if_neg h3]
  by_cases h4 : a.op = 1 ∧ b.op = 4
  · have e : pC a b = ({ a with sub := (textT b.id b.text a.sub).1 }, (textT b.id b.text a.sub).2) := by rw [pC, if_pos h4]
    rw [e]
    by_cases h5 : (textT b.id b.text a.sub).2 = true
    · rw [if_pos ⟨h4.1, h4.2, h5⟩, if_pos h5]
    · rw [if_neg (fun h => h5 h.2.2), if_neg h5]
  · have e : pC a b = (a, false) := by rw [pC, if_neg h4]
    rw [e, if_neg (fun h => h4 ⟨h.1, h.2.1⟩)]
    rfl
set_option maxHeartbeats 2000000 in
theorem Pair10 (A : Ar) (E : Em) (F : EmS) {P : Program} (hP : P = Try.prog) (n : Nat) (a b : Stp) (hwa : within (n + 1) a.sub) (hwb : within (n + 1) b.sub) : TPure P 10 [F.l.v a, F.l.v b] (.tup [.sl 9 (F.l.l ((pairF a b).getD [])), .bool (pairF a b).isSome]) := by
  have hr := rules25 A hP
  obtain ⟨ra, hra⟩ : ∃ r, r = pA 4 a b := ⟨_, rfl⟩
  obtain ⟨rb, hrb⟩ : ∃ r, r = pA 3 a b := ⟨_, rfl⟩
  obtain ⟨rc, hrc⟩ : ∃ r, r = pB a b := ⟨_, rfl⟩
  obtain ⟨rd, hrd⟩ : ∃ r, r = (pC a b).2 := ⟨_, rfl⟩
  obtain ⟨y, hy⟩ : ∃ y, y = (pC a b).1 := ⟨_, rfl⟩
  have cA := ruleA A E F hP (n + 1) 4 a b hwb ra hra
  have cB := ruleA A E F hP (n + 1) 3 a b hwb rb hrb
  have cC := ruleB A E F hP a b rc hrc
  have cD := ruleC A E F hP n a b hwa y rd (fun h1 h2 => by rw [hy, hrd, pC, if_pos ⟨h1, h2⟩]; exact ⟨rfl, rfl⟩) (fun h => by
    have hne : ¬ (a.op = 1 ∧ b.op = 4) := fun e => by rcases h with h | h; exact h e.1; exact h e.2
    rw [hy, hrd, pC, if_neg hne]; exact ⟨rfl, rfl⟩)
  have hp := pairF_eq a b
  rw [← hra, ← hrb, ← hrc, ← hrd, ← hy] at hp
  obtain ⟨o, ho⟩ : ∃ o, o = pairF a b := ⟨_, rfl⟩
  rw [← ho] at hp ⊢
  clear hra hrb hrc hrd hy ho
  obtain ⟨rs, hrs⟩ : ∃ rs, rs = rulesV := ⟨_, rfl⟩
  rw [← hrs] at hr
  have hrp : Tw.Pur rs := by rw [hrs]; exact Pur.mk rfl
  have r0 : rs[0]? = some (.func (.func 39) [] [.imm [.int .i8 4]]) := by rw [hrs]; rfl
  have r1 : rs[1]? = some (.func (.func 39) [] [.imm [.int .i8 3]]) := by rw [hrs]; rfl
  have r2 : rs[2]? = some (.func (.func 41) [] []) := by rw [hrs]; rfl
  have r3 : rs[3]? = some (.func (.func 42) [] []) := by rw [hrs]; rfl
  have hrl : rs.length = 4 := by rw [hrs]; rfl
  have hrk : A.len rs = 4 := by rw [A.ok_len, hrl]; rfl
  clear hrs
  obtain ⟨lb, hlb⟩ : ∃ l, l = F.l.l [b] := ⟨_, rfl⟩
  obtain ⟨ly, hly⟩ : ∃ l, l = F.l.l [y] := ⟨_, rfl⟩
  have plb : Tw.Pur lb := by rw [hlb]; exact Emb.Pur _ _
  have ply : Tw.Pur ly := by rw [hly]; exact Emb.Pur _ _
  rw [← hlb] at cA cB
  rw [← hly] at cD
  obtain ⟨lo, hlo⟩ : ∃ l, l = F.l.l (o.getD []) := ⟨_, rfl⟩
  obtain ⟨os, hos⟩ : ∃ b, b = o.isSome := ⟨_, rfl⟩
  rw [← hlo, ← hos]
  obtain ⟨op1, id1, par1, pl1, tx1, i1, k1, s1, ks1⟩ := a
  obtain ⟨op2, id2, par2, pl2, tx2, i2, k2, s2, ks2⟩ := b
  rw [F.v E, F.v E] at cA cB cC cD ⊢
  have pa : Tw.Pur [.int .i8 op1, .int .i64 id1, .int .i64 par1, .int .i64 pl1, .str tx1, .int .i64 i1, .int .i64 k1, .str s1, .sl 4 (E.tree.l ks1)] := Pur.mk (by (repeat (first | exact rfl | exact Emb.purL _ _ | assumption | apply pur_cons | apply pur_sl | apply pur_slt | apply pur_agg | apply pur_tup)))
  have pb : Tw.Pur [.int .i8 op2, .int .i64 id2, .int .i64 par2, .int .i64 pl2, .str tx2, .int .i64 i2, .int .i64 k2, .str s2, .sl 4 (E.tree.l ks2)] := Pur.mk (by (repeat (first | exact rfl | exact Emb.purL _ _ | assumption | apply pur_cons | apply pur_sl | apply pur_slt | apply pur_agg | apply pur_tup)))
  refine TPure.ofE A T0 (T0_ok hP) (hP ▸ Try.func10) rfl _ rfl (by simp) ?_
  cbv
  ((try cbv) <;> (repeat ((with_reducible refine EW.of ?_); cbv)))
  (refine ⟨Ent.of (hP ▸ Try.func25) rfl, ?_⟩; refine TC.pureE hr ?_; cbv; (repeat (first | exact trivial | refine And.intro (Emb.Pur _ _) ?_ | refine And.intro rfl ?_ | refine And.intro (Pur.mk rfl) ?_ | refine And.intro (Pur.mk (by assumption)) ?_)); ((try cbv) <;> (repeat ((with_reducible refine EW.of ?_); cbv))))
  obtain ⟨S, hS⟩ : ∃ S : LI Nat, S = ⟨fun j => [(12, .int .i64 j), (11, .int .i64 4), (10, .sl 1 rs), (3, .imm [.int .i8 op2, .int .i64 id2, .int .i64 par2, .int .i64 pl2, .str tx2, .int .i64 i2, .int .i64 k2, .str s2, .sl 4 (E.tree.l ks2)]), (2, .imm [.int .i8 op1, .int .i64 id1, .int .i64 par1, .int .i64 pl1, .str tx1, .int .i64 i1, .int .i64 k1, .str s1, .sl 4 (E.tree.l ks1)])],
    fun _ => [], fun j => j ≤ 4 ∧ (0 < j → ra = false) ∧ (1 < j → rb = false) ∧ (2 < j → rc = false) ∧ (3 < j → rd = false), fun j => 4 - j⟩ := ⟨_, rfl⟩
  refine TW.loopM A (T0_ok hP) S _ rfl 0 ?_ ?_ ?_
  · rw [hS]; exact ⟨by decide, fun h => absurd h (by decide), fun h => absurd h (by decide), fun h => absurd h (by decide), fun h => absurd h (by decide)⟩
  · rw [hS]
    cbv
    (repeat (first | exact trivial | refine And.intro (Emb.Pur _ _) ?_ | refine And.intro rfl ?_ | refine And.intro pa ?_ | refine And.intro pb ?_ | refine And.intro hrp ?_ | refine And.intro hrk ?_ | refine And.intro (inc_eq A (by omega)) ?_ | refine And.intro (inc_eq A (i := 0) (by decide)) ?_ | refine And.intro (inc_eq A (i := 1) (by decide)) ?_ | refine And.intro (inc_eq A (i := 2) (by decide)) ?_ | refine And.intro (inc_eq A (i := 3) (by decide)) ?_))
  intro j hj l1 L1 e1 e2; rw [hS] at hj e1 e2; dsimp only at hj e1 e2; obtain ⟨hj, n1, n2, n3, n4⟩ := hj; subst e1 e2
  cbv
  ((try cbv) <;> (repeat ((with_reducible refine EW.of ?_); cbv)))
  refine bsplit (fun h => ?_) (fun h => ?_)
  · have h : j < 4 := lt_nt (j := 4) h rfl rfl
    obtain rfl | rfl | rfl | rfl : j = 0 ∨ j = 1 ∨ j = 2 ∨ j = 3 := by omega
    · ((try cbv) <;> (repeat ((with_reducible refine EW.of ?_); cbv)))
      refine ⟨0, _, rfl, r0, ?_⟩
      cbv
      ((try cbv) <;> (repeat ((with_reducible refine EW.of ?_); cbv)))
      (refine ⟨Ent.of (hP ▸ Try.func39) rfl, ?_⟩; refine TC.pureE cA ?_; cbv; (repeat (first | exact trivial | refine And.intro (Emb.Pur _ _) ?_ | refine And.intro rfl ?_ | refine And.intro (Pur.mk rfl) ?_ | refine And.intro (Pur.mk (by assumption)) ?_)); ((try cbv) <;> (repeat ((with_reducible refine EW.of ?_); cbv))))
      cases ra with
      | true =>
        simp only [Bool.false_eq_true, if_false, if_true] at hp
        subst hp
        obtain rfl : lo = lb := hlo.trans hlb.symm
        obtain rfl : os = true := hos
        ((try cbv) <;> (repeat ((with_reducible refine EW.of ?_); cbv)))
        (repeat (first | exact trivial | refine And.intro rfl ?_ | refine And.intro plb ?_))
      | false =>
        ((try cbv) <;> (repeat ((with_reducible refine EW.of ?_); cbv)))
        refine LM.of 1 rfl ?_ ?_ ?_
        · rw [hS]; exact ⟨by decide, fun _ => rfl, fun h => absurd h (by decide), fun h => absurd h (by decide), fun h => absurd h (by decide)⟩
        · rw [hS]; show 4 - 1 < 4 - 0; decide
        · rw [hS]
          cbv
          (repeat (first | exact trivial | refine And.intro (Emb.Pur _ _) ?_ | refine And.intro rfl ?_ | refine And.intro pa ?_ | refine And.intro pb ?_ | refine And.intro hrp ?_ | refine And.intro hrk ?_ | refine And.intro (inc_eq A (by omega)) ?_ | refine And.intro (inc_eq A (i := 0) (by decide)) ?_ | refine And.intro (inc_eq A (i := 1) (by decide)) ?_ | refine And.intro (inc_eq A (i := 2) (by decide)) ?_ | refine And.intro (inc_eq A (i := 3) (by decide)) ?_))
    · ((try cbv) <;> (repeat ((with_reducible refine EW.of ?_); cbv)))
      refine ⟨1, _, rfl, r1, ?_⟩
      cbv
      ((try cbv) <;> (repeat ((with_reducible refine EW.of ?_); cbv)))
      (refine ⟨Ent.of (hP ▸ Try.func39) rfl, ?_⟩; refine TC.pureE cB ?_; cbv; (repeat (first | exact trivial | refine And.intro (Emb.Pur _ _) ?_ | refine And.intro rfl ?_ | refine And.intro (Pur.mk rfl) ?_ | refine And.intro (Pur.mk (by assumption)) ?_)); ((try cbv) <;> (repeat ((with_reducible refine EW.of ?_); cbv))))
      cases rb with
      | true =>
        rw [n1 (by decide)] at hp
        simp only [Bool.false_eq_true, if_false, if_true] at hp
        subst hp
        obtain rfl : lo = lb := hlo.trans hlb.symm
        obtain rfl : os = true := hos
        ((try cbv) <;> (repeat ((with_reducible refine EW.of ?_); cbv)))
        (repeat (first | exact trivial | refine And.intro rfl ?_ | refine And.intro plb ?_))
      | false =>
        ((try cbv) <;> (repeat ((with_reducible refine EW.of ?_); cbv)))
        refine LM.of 2 rfl ?_ ?_ ?_
        · rw [hS]; exact ⟨by decide, fun h => n1 (by decide), fun _ => rfl, fun h => absurd h (by decide), fun h => absurd h (by decide)⟩
        · rw [hS]; show 4 - 2 < 4 - 1; decide
        · rw [hS]
          cbv
          (repeat (first | exact trivial | refine And.intro (Emb.Pur _ _) ?_ | refine And.intro rfl ?_ | refine And.intro pa ?_ | refine And.intro pb ?_ | refine And.intro hrp ?_ | refine And.intro hrk ?_ | refine And.intro (inc_eq A (by omega)) ?_ | refine And.intro (inc_eq A (i := 0) (by decide)) ?_ | refine And.intro (inc_eq A (i := 1) (by decide)) ?_ | refine And.intro (inc_eq A (i := 2) (by decide)) ?_ | refine And.intro (inc_eq A (i := 3) (by decide)) ?_))
    · ((try cbv) <;> (repeat ((with_reducible refine EW.of ?_); cbv)))
      refine ⟨2, _, rfl, r2, ?_⟩
      cbv
      ((try cbv) <;> (repeat ((with_reducible refine EW.of ?_); cbv)))
      (refine ⟨Ent.of (hP ▸ Try.func41) rfl, ?_⟩; refine TC.pureE cC ?_; cbv; (repeat (first | exact trivial | refine And.intro (Emb.Pur _ _) ?_ | refine And.intro rfl ?_ | refine And.intro (Pur.mk rfl) ?_ | refine And.intro (Pur.mk (by assumption)) ?_)); ((try cbv) <;> (repeat ((with_reducible refine EW.of ?_); cbv))))
      cases rc with
      | true =>
        rw [n1 (by decide), n2 (by decide)] at hp
        simp only [Bool.false_eq_true, if_false, if_true] at hp
        subst hp
        obtain rfl : lo = [] := hlo.trans F.l.nil
        obtain rfl : os = true := hos
        ((try cbv) <;> (repeat ((with_reducible refine EW.of ?_); cbv)))
        (repeat (first | exact trivial | refine And.intro rfl ?_ | refine And.intro (Pur.mk rfl) ?_))
      | false =>
        ((try cbv) <;> (repeat ((with_reducible refine EW.of ?_); cbv)))
        refine LM.of 3 rfl ?_ ?_ ?_
        · rw [hS]; exact ⟨by decide, fun h => n1 (by decide), fun h => n2 (by decide), fun _ => rfl, fun h => absurd h (by decide)⟩
        · rw [hS]; show 4 - 3 < 4 - 2; decide
        · rw [hS]
          cbv
          (repeat (first | exact trivial | refine And.intro (Emb.Pur _ _) ?_ | refine And.intro rfl ?_ | refine And.intro pa ?_ | refine And.intro pb ?_ | refine And.intro hrp ?_ | refine And.intro hrk ?_ | refine And.intro (inc_eq A (by omega)) ?_ | refine And.intro (inc_eq A (i := 0) (by decide)) ?_ | refine And.intro (inc_eq A (i := 1) (by decide)) ?_ | refine And.intro (inc_eq A (i := 2) (by decide)) ?_ | refine And.intro (inc_eq A (i := 3) (by decide)) ?_))
    · ((try cbv) <;> (repeat ((with_reducible refine EW.of ?_); cbv)))
      refine ⟨3, _, rfl, r3, ?_⟩
      cbv
      ((try cbv) <;> (repeat ((with_reducible refine EW.of ?_); cbv)))
      (refine ⟨Ent.of (hP ▸ Try.func42) rfl, ?_⟩; refine TC.pureE cD ?_; cbv; (repeat (first | exact trivial | refine And.intro (Emb.Pur _ _) ?_ | refine And.intro rfl ?_ | refine And.intro (Pur.mk rfl) ?_ | refine And.intro (Pur.mk (by assumption)) ?_)); ((try cbv) <;> (repeat ((with_reducible refine EW.of ?_); cbv))))
      cases rd with
      | true =>
        rw [n1 (by decide), n2 (by decide), n3 (by decide)] at hp
        simp only [Bool.false_eq_true, if_false, if_true] at hp
        subst hp
        obtain rfl : lo = ly := hlo.trans hly.symm
        obtain rfl : os = true := hos
        ((try cbv) <;> (repeat ((with_reducible refine EW.of ?_); cbv)))
        (repeat (first | exact trivial | refine And.intro rfl ?_ | refine And.intro ply ?_))
      | false =>
        ((try cbv) <;> (repeat ((with_reducible refine EW.of ?_); cbv)))
        refine LM.of 4 rfl ?_ ?_ ?_
        · rw [hS]; exact ⟨by decide, fun h => n1 (by decide), fun h => n2 (by decide), fun h => n3 (by decide), fun _ => rfl⟩
        · rw [hS]; show 4 - 4 < 4 - 3; decide
        · rw [hS]
          cbv
          (repeat (first | exact trivial | refine And.intro (Emb.Pur _ _) ?_ | refine And.intro rfl ?_ | refine And.intro pa ?_ | refine And.intro pb ?_ | refine And.intro hrp ?_ | refine And.intro hrk ?_ | refine And.intro (inc_eq A (by omega)) ?_ | refine And.intro (inc_eq A (i := 0) (by decide)) ?_ | refine And.intro (inc_eq A (i := 1) (by decide)) ?_ | refine And.intro (inc_eq A (i := 2) (by decide)) ?_ | refine And.intro (inc_eq A (i := 3) (by decide)) ?_))
  · have h : 4 ≤ j := lt_nf (j := 4) h rfl rfl
    rw [n1 (by omega), n2 (by omega), n3 (by omega), n4 (by omega)] at hp
    simp only [Bool.false_eq_true, if_false] at hp
    subst hp
    obtain rfl : lo = [] := hlo.trans F.l.nil
    obtain rfl : os = false := hos
    ((try cbv) <;> (repeat ((with_reducible refine EW.of ?_); cbv)))
end Go.Proofs.Ytaieiigfheabfaa
