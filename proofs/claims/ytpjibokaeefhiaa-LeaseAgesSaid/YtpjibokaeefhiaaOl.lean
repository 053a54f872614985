import Derived.Test.YtpjibokaeefhiaaOj
/-! lease.Add: its last region draws the order of a call that makes a row, and an append onto it. -/
namespace Go.Proofs.Ytpjibokaeefhiaa
open Go.Proofs.Ytpjibokaeefhiaa.Tw
theorem Clone68e (A : Ar) (F : EmL) {P : Program} (hP : P = Try.prog) (l : List Lease) (hl0 : l = []) : TC1 P 68 [.sl 5 (F.l.l l)] [] (.slt 5 []) [] := by
  rw [hl0, F.l.nil]
  refine TC1.of A _ _ T0 (T0_ok hP) (hP ▸ Try.func68) rfl _ rfl (by simp) ?_
  cbv
  ((try cbv) <;> (repeat ((with_reducible refine EW.of ?_); cbv)))
  refine And.intro (fun _ => ?_) ?_
  · cbv
    ((try cbv) <;> (repeat ((with_reducible refine EW.of ?_); cbv)))
    refine R1.of ?_
    cbv
    all_goals (repeat (first | exact trivial | refine And.intro (Emb.Pur _ _) ?_ | refine And.intro rfl ?_ | refine And.intro (Pur.mk rfl) ?_ | refine And.intro (Pur.mk (by assumption)) ?_))
  · ((try cbv) <;> (repeat ((with_reducible refine EW.of ?_); cbv)))
    refine R1.of ?_
    cbv
    (repeat (first | exact trivial | refine And.intro (Emb.Pur _ _) ?_ | refine And.intro rfl ?_ | refine And.intro (Pur.mk rfl) ?_ | refine And.intro (Pur.mk (by assumption)) ?_))
    all_goals exact ⟨⟨rfl⟩, trivial⟩
theorem Clone68c (A : Ar) (F : EmL) {P : Program} (hP : P = Try.prog) (l : List Lease) (hl : l.length ≤ 1000000) (hl0 : l ≠ []) (q : Nat) (hq : q = l.length) : TC1 P 68 [.sl 5 (F.l.l l)] [] (.row 0 5 0 q) [some (.arr 5 (F.l.l l))] := by
  refine TC1.of A _ _ T0 (T0_ok hP) (hP ▸ Try.func68) rfl _ rfl (by simp) ?_
  have hll := F.l.len l
  have hsc := F.scal l
  have hpu := F.l.purL l
  have hne : F.l.l l ≠ [] := fun e => hl0 (List.eq_nil_of_length_eq_zero (by rw [← hll, e]; rfl))
  generalize F.l.l l = r at hll hsc hne hpu ⊢
  cbv
  ((try cbv) <;> (repeat ((with_reducible refine EW.of ?_); cbv)))
  refine And.intro (fun h => absurd h hne) ?_
  ((try cbv) <;> (repeat ((with_reducible refine EW.of ?_); cbv)))
  obtain ⟨a, al, hal⟩ : ∃ a al, r = a :: al := by
    cases r with
    | nil => exact absurd rfl hne
    | cons a al => exact ⟨a, al, rfl⟩
  rw [hal]
  cbv
  ((try cbv) <;> (repeat ((with_reducible refine EW.of ?_); cbv)))
  rw [← hal]
  refine ⟨hsc, 0, rfl, q, r, by rw [hq, hll, Nat.zero_add], by simp, Nat.zero_le _, ?_, ?_, ?_⟩
  · show q * 40 ≤ _
    omega
  · omega
  cbv
  ((try cbv) <;> (repeat ((with_reducible refine EW.of ?_); cbv)))
  refine R1.of ?_
  cbv
  (repeat (first | exact trivial | refine And.intro (Emb.Pur _ _) ?_ | refine And.intro rfl ?_ | refine And.intro (Pur.mk rfl) ?_ | refine And.intro (Pur.mk (by assumption)) ?_))
set_option maxHeartbeats 1000000 in
theorem Add36 (A : Ar) (E : Em) (F : EmL) {P : Program} (hP : P = Try.prog) (n : Nat) (hn : n ≤ 1000000) (t : Tree) (hw : within n t) (l : List Lease) (hl : l.length ≤ 1000000) (x : Lease) : TPure P 36 [E.tree.v t, .sl 5 (F.l.l l), F.l.v x] (F.added (addS t l x)) := by
  refine TPure.ofE A T0 (T0_ok hP) (hP ▸ Try.func36) rfl _ rfl (by simp) ?_
  obtain ⟨r, hr⟩ : ∃ r, F.added (addS t l x) = r := ⟨_, rfl⟩
  rw [hr]
  unfold addS at hr
  obtain ⟨i, k, s, ks⟩ := t
  obtain ⟨x1, x2, x3, x4, x5⟩ := x
  dsimp only at hr
  have hll := F.l.len l
  have hcl := Clone68 A F hP l hl
  have hp := Path26 A hP x2 n hn (.node i k s ks) hw
  have h66 := contains66 A E F hP _ _ _ (tells67 A F hP x1 x2 x3 x4 x5) l hl
  have h51 := Way51 A E F hP n hn (.node i k s ks) hw l hl x2
  generalize l.any (fun y => decide (x1 ≤ y.id)) = ba at h66 hr
  rw [show (fun x => withinS (.node i k s ks) x.root x2 || withinS (.node i k s ks) x2 x.root) = inWay (.node i k s ks) x2 from rfl] at h51
  generalize l.find? (inWay (.node i k s ks) x2) = w at h51 hr
  generalize pathT x2 (.node i k s ks) = p at hp hr
  unfold pathAV at hp
  rw [show p.isNone = !p.isSome from by cases p <;> rfl] at hr
  generalize p.isSome = pb at hp hr
  generalize p.getD [] = pl at hp
  rw [E.ints] at hp
  unfold EmL.found at h51
  generalize w.isSome = wb at h51 hr
  generalize w.getD lease0 = u at h51
  obtain ⟨u1, u2, u3, u4, u5⟩ := u
  simp only [E.av, E.node, F.row] at hp h51 ⊢
  cbv
  ((try cbv) <;> (repeat ((with_reducible refine EW.of ?_); cbv)))
  by_cases h1 : x1 < 1
  · rw [if_pos h1] at hr
    refine byes (ltT h1) ?_
    rw [F.added_no] at hr
    subst hr
    cbv
    all_goals ((try cbv) <;> (repeat ((with_reducible refine EW.of ?_); cbv)))
  rw [if_neg h1] at hr
  refine bno (ltF (by omega)) ?_
  cbv
  by_cases h2 : x4 < 1
  · rw [if_pos h2] at hr
    refine byes (ltT h2) ?_
    rw [F.added_no] at hr
    subst hr
    cbv
    all_goals ((try cbv) <;> (repeat ((with_reducible refine EW.of ?_); cbv)))
  rw [if_neg h2] at hr
  refine bno (ltF (by omega)) ?_
  cbv
  by_cases h3 : x5 < 1
  · rw [if_pos h3] at hr
    refine byes (ltT h3) ?_
    rw [F.added_no] at hr
    subst hr
    cbv
    all_goals ((try cbv) <;> (repeat ((with_reducible refine EW.of ?_); cbv)))
  rw [if_neg h3] at hr
  refine bno (ltF (by omega)) ?_
  cbv
  by_cases h4 : x3 < 1
  · rw [if_pos h4] at hr
    refine byes (ltT h4) ?_
    rw [F.added_no] at hr
    subst hr
    cbv
    all_goals ((try cbv) <;> (repeat ((with_reducible refine EW.of ?_); cbv)))
  rw [if_neg h4] at hr
  refine bno (ltF (by omega)) ?_
  cbv
  by_cases h5 : 8 < x3
  · rw [if_pos h5] at hr
    ((try cbv) <;> (repeat ((with_reducible refine EW.of ?_); cbv)))
    refine byes (ltT h5) ?_
    rw [F.added_no] at hr
    subst hr
    cbv
    all_goals ((try cbv) <;> (repeat ((with_reducible refine EW.of ?_); cbv)))
  rw [if_neg h5] at hr
  ((try cbv) <;> (repeat ((with_reducible refine EW.of ?_); cbv)))
  refine bno (ltF (by omega)) ?_
  cbv
  ((try cbv) <;> (repeat ((with_reducible refine EW.of ?_); cbv)))
  (refine ⟨Ent.of (hP ▸ Try.func26) rfl, ?_⟩; refine TC.pureE hp ?_; cbv; (repeat (first | exact trivial | refine And.intro (Emb.Pur _ _) ?_ | refine And.intro rfl ?_ | refine And.intro (Pur.mk rfl) ?_ | refine And.intro (Pur.mk (by assumption)) ?_)); ((try cbv) <;> (repeat ((with_reducible refine EW.of ?_); cbv))))
  cases pb with
  | false =>
    rw [if_pos (show (!false) = true from rfl)] at hr
    ((try cbv) <;> (repeat ((with_reducible refine EW.of ?_); cbv)))
    rw [F.added_no] at hr
    subst hr
    cbv
    all_goals ((try cbv) <;> (repeat ((with_reducible refine EW.of ?_); cbv)))
  | true =>
  rw [if_neg (by decide)] at hr
  ((try cbv) <;> (repeat ((with_reducible refine EW.of ?_); cbv)))
  (refine ⟨Ent.of (hP ▸ Try.func66) rfl, ?_⟩; refine TC.pureT h66 rfl ?_; cbv; (repeat (first | exact trivial | refine And.intro (Emb.Pur _ _) ?_ | refine And.intro rfl ?_ | refine And.intro (Pur.mk rfl) ?_ | refine And.intro (Pur.mk (by assumption)) ?_)); ((try cbv) <;> (repeat ((with_reducible refine EW.of ?_); cbv))))
  cases ba with
  | true =>
    rw [if_pos rfl] at hr
    ((try cbv) <;> (repeat ((with_reducible refine EW.of ?_); cbv)))
    rw [F.added_no] at hr
    subst hr
    cbv
    all_goals ((try cbv) <;> (repeat ((with_reducible refine EW.of ?_); cbv)))
  | false =>
  rw [if_neg (by decide)] at hr
  ((try cbv) <;> (repeat ((with_reducible refine EW.of ?_); cbv)))
  (refine ⟨Ent.of (hP ▸ Try.func51) rfl, ?_⟩; refine TC.pureE h51 ?_; cbv; (repeat (first | exact trivial | refine And.intro (Emb.Pur _ _) ?_ | refine And.intro rfl ?_ | refine And.intro (Pur.mk rfl) ?_ | refine And.intro (Pur.mk (by assumption)) ?_)); ((try cbv) <;> (repeat ((with_reducible refine EW.of ?_); cbv))))
  cases wb with
  | true =>
    rw [if_pos rfl] at hr
    ((try cbv) <;> (repeat ((with_reducible refine EW.of ?_); cbv)))
    rw [F.added_no] at hr
    subst hr
    cbv
    all_goals ((try cbv) <;> (repeat ((with_reducible refine EW.of ?_); cbv)))
  | false =>
  rw [if_neg (by decide)] at hr
  ((try cbv) <;> (repeat ((with_reducible refine EW.of ?_); cbv)))
  by_cases h6 : 16 ≤ l.length
  · rw [if_pos h6] at hr
    have h16 : (16 : Int) ≤ A.len (F.l.l l) := by rw [A.ok_len, hll]; omega
    refine byes (leT h16) ?_
    ((try cbv) <;> (repeat ((with_reducible refine EW.of ?_); cbv)))
    rw [F.added_no] at hr
    subst hr
    cbv
    all_goals ((try cbv) <;> (repeat ((with_reducible refine EW.of ?_); cbv)))
  rw [if_neg h6] at hr
  have h16 : A.len (F.l.l l) < (16 : Int) := by rw [A.ok_len, hll]; omega
  refine bno (leF h16) ?_
  ((try cbv) <;> (repeat ((with_reducible refine EW.of ?_); cbv)))
  obtain ⟨l2, hl2⟩ : ∃ l2, l2 = l ++ [⟨x1, x2, x3, x4, x5⟩] := ⟨_, rfl⟩
  rw [← hl2] at hr
  have hl2l : l2.length = l.length + 1 := by rw [hl2]; simp
  unfold EmL.added at hr
  dsimp only at hr
  obtain ⟨q2, hq2⟩ : ∃ q, q = l2.length := ⟨_, rfl⟩
  by_cases hl0 : l = []
  · have h68 := Clone68e A F hP l hl0
    (refine TW.drawP (A := A) [(1, []), (4, [some (.arr 5 (F.l.l l2))])] (T0_ok hP) (hP ▸ follows_mixed) (by cbv) rfl (by cbv) (by cbv) (by cbv) rfl rfl rfl ?_; cbv)
    refine And.intro (Ent.of (hP ▸ Try.func68) rfl) ⟨.slt 5 [], [some (.box 4 (.agg [.int .i64 i, .int .i64 k, .str s, .sl 4 (E.tree.l ks)])), some (.box 5 (.agg [.int .i64 x1, .int .i64 x2, .int .i64 x3, .int .i64 x4, .int .i64 x5])), some (.box 5 (.agg [.int .i64 u1, .int .i64 u2, .int .i64 u3, .int .i64 u4, .int .i64 u5]))], TC1.call [] h68 ?_, ⟨rfl, ?_⟩⟩
    · cbv
      (repeat (first | exact trivial | refine And.intro (Emb.Pur _ _) ?_ | refine And.intro rfl ?_ | refine And.intro (Pur.mk rfl) ?_ | refine And.intro (Pur.mk (by assumption)) ?_))
    cbv
    refine ⟨⟨rfl⟩, 0, rfl, q2, F.l.l l2, by rw [hq2, hl2l, hl0]; rfl, by rw [hl2, hl0]; simp only [List.nil_append, F.l.cons, F.row, F.l.nil]; rfl, Nat.zero_le _, ?_, ?_, ⟨rfl, ?_⟩⟩
    · have hq1 : q2 = 1 := by rw [hq2, hl2l, hl0]; rfl
      show q2 * 40 ≤ 140737488355328
      omega
    · rw [hq2, hl2l, hl0]; simp
    subst hr
    cbv
    ((try cbv) <;> (repeat ((with_reducible refine EW.of ?_); cbv)))
    exact ⟨F.l.cut hq2, F.l.Pur _, trivial⟩
  · obtain ⟨q, hq⟩ : ∃ q, q = l.length := ⟨_, rfl⟩
    have h68 := Clone68c A F hP l hl hl0 q hq
    (refine TW.drawP (A := A) [(1, [some (.arr 5 (F.l.l l))]), (4, [none, some (.arr 5 (F.l.l l2))])] (T0_ok hP) (hP ▸ follows_mixed) (by cbv) rfl (by cbv) (by cbv) (by cbv) rfl rfl rfl ?_; cbv)
    refine And.intro (Ent.of (hP ▸ Try.func68) rfl) ⟨.row 3 5 0 q, [some (.box 4 (.agg [.int .i64 i, .int .i64 k, .str s, .sl 4 (E.tree.l ks)])), some (.box 5 (.agg [.int .i64 x1, .int .i64 x2, .int .i64 x3, .int .i64 x4, .int .i64 x5])), some (.box 5 (.agg [.int .i64 u1, .int .i64 u2, .int .i64 u3, .int .i64 u4, .int .i64 u5])), some (.arr 5 (F.l.l l))], TC1.call [] h68 ?_, ⟨rfl, ?_⟩⟩
    · cbv
      (repeat (first | exact trivial | refine And.intro (Emb.Pur _ _) ?_ | refine And.intro rfl ?_ | refine And.intro (Pur.mk rfl) ?_ | refine And.intro (Pur.mk (by assumption)) ?_))
    cbv
    refine ⟨⟨rfl⟩, q2, F.l.l l2, by rw [hq2, hl2l, hq]; rfl, by rw [hl2, F.l.app, F.l.cons, F.row, F.l.nil, List.take_of_length_le (show (F.l.l l).length ≤ q by omega)], (show q ≤ (F.l.l l).length by omega), by omega, by omega, ⟨rfl, ?_⟩⟩
    subst hr
    cbv
    ((try cbv) <;> (repeat ((with_reducible refine EW.of ?_); cbv)))
    exact ⟨F.l.cut hq2, F.l.Pur _, trivial⟩
end Go.Proofs.Ytpjibokaeefhiaa
