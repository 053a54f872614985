import Derived.Test.YtpjibokaeefhiaaOj
/-! A lease added, the reference. -/
namespace Go.Proofs.Ytpjibokaeefhiaa
open Go.Proofs.Ytpjibokaeefhiaa.Tw
theorem any_drop {so : Lease → Bool} : ∀ {l : List Lease} {j : Nat} {x : Lease}, l[j]? = some x → (l.drop j).any so = (so x || (l.drop (j + 1)).any so)
  | [], j, x, h => by simp at h
  | y :: l, 0, x, h => by simp at h; subst h; rfl
  | y :: l, j + 1, x, h => by simp only [List.drop_succ_cons]; exact any_drop (by simpa using h)
theorem msplit {els : List AV} {X : Prop} {Y : AV → List AV → Prop} : (els = [] → X) → (∀ x xs, els = x :: xs → Y x xs) → (match els with | [] => X | x :: xs => Y x xs) := fun h1 h2 => by
  cases els with
  | nil => exact h1 rfl
  | cons x xs => exact h2 x xs rfl
set_option maxHeartbeats 1000000 in
theorem Add37 (A : Ar) (E : Em) (F : EmL) {P : Program} (hP : P = Try.prog) (n : Nat) (hn : n ≤ 1000000) (t : Tree) (hw : within n t) (l : List Lease) (hl : l.length ≤ 1000000) (x : Lease) : TPure P 37 [E.tree.v t, .sl 5 (F.l.l l), F.l.v x] (F.added (addS t l x)) := by
  refine TPure.ofE A T0 (T0_ok hP) (hP ▸ Try.func37) rfl _ rfl (by simp) ?_
  obtain ⟨r, hr⟩ : ∃ r, F.added (addS t l x) = r := ⟨_, rfl⟩
  rw [hr]
  unfold addS at hr
  obtain ⟨i, k, s, ks⟩ := t
  obtain ⟨x1, x2, x3, x4, x5⟩ := x
  dsimp only at hr
  have hll := F.l.len l
  have hp := Path27 A hP x2 n hn (.node i k s ks) hw
  have h51 := Way52 A E F hP n hn (.node i k s ks) hw l hl x2
  generalize hba : l.any (fun y => decide (x1 ≤ y.id)) = ba at hr
  rw [show (fun x => withinS (.node i k s ks) x.root x2 || withinS (.node i k s ks) x2 x.root) = inWay (.node i k s ks) x2 from rfl] at h51
  generalize l.find? (inWay (.node i k s ks) x2) = w at h51 hr
  generalize pathT x2 (.node i k s ks) = p at hp hr
  unfold pathAV at hp
  rw [show p.isNone = !p.isSome from by cases p <;> rfl] at hr
  generalize p.isSome = pb at hp hr
  generalize p.getD [] = pl at hp
  rw [E.ints] at hp
  unfold EmL.found at h51
  generalize w.isSome = wb at h51 hr
  generalize w.getD lease0 = u at h51
  obtain ⟨u1, u2, u3, u4, u5⟩ := u
  simp only [E.av, E.node, F.row] at hp h51 ⊢
  cbv
  ((try cbv) <;> (repeat ((with_reducible refine EW.of ?_); cbv)))
  by_cases h1 : x1 < 1
  · rw [if_pos h1] at hr
    refine byes (ltT h1) ?_
    rw [F.added_no] at hr
    subst hr
    cbv
    all_goals ((try cbv) <;> (repeat ((with_reducible refine EW.of ?_); cbv)))
  rw [if_neg h1] at hr
  refine bno (ltF (by omega)) ?_
  cbv
  by_cases h2 : x4 < 1
  · rw [if_pos h2] at hr
    refine byes (ltT h2) ?_
    rw [F.added_no] at hr
    subst hr
    cbv
    all_goals ((try cbv) <;> (repeat ((with_reducible refine EW.of ?_); cbv)))
  rw [if_neg h2] at hr
  refine bno (ltF (by omega)) ?_
  cbv
  by_cases h3 : x5 < 1
  · rw [if_pos h3] at hr
    refine byes (ltT h3) ?_
    rw [F.added_no] at hr
    subst hr
    cbv
    all_goals ((try cbv) <;> (repeat ((with_reducible refine EW.of ?_); cbv)))
  rw [if_neg h3] at hr
  refine bno (ltF (by omega)) ?_
  cbv
  by_cases h4 : x3 < 1
  · rw [if_pos h4] at hr
    refine byes (ltT h4) ?_
    rw [F.added_no] at hr
    subst hr
    cbv
    all_goals ((try cbv) <;> (repeat ((with_reducible refine EW.of ?_); cbv)))
  rw [if_neg h4] at hr
  refine bno (ltF (by omega)) ?_
  cbv
  by_cases h5 : 8 < x3
  · rw [if_pos h5] at hr
    ((try cbv) <;> (repeat ((with_reducible refine EW.of ?_); cbv)))
    refine byes (ltT h5) ?_
    rw [F.added_no] at hr
    subst hr
    cbv
    all_goals ((try cbv) <;> (repeat ((with_reducible refine EW.of ?_); cbv)))
  rw [if_neg h5] at hr
  ((try cbv) <;> (repeat ((with_reducible refine EW.of ?_); cbv)))
  refine bno (ltF (by omega)) ?_
  cbv
  ((try cbv) <;> (repeat ((with_reducible refine EW.of ?_); cbv)))
  (refine ⟨Ent.of (hP ▸ Try.func27) rfl, ?_⟩; refine TC.pureE hp ?_; cbv; (repeat (first | exact trivial | refine And.intro (Emb.Pur _ _) ?_ | refine And.intro rfl ?_ | refine And.intro (Pur.mk rfl) ?_ | refine And.intro (Pur.mk (by assumption)) ?_)); ((try cbv) <;> (repeat ((with_reducible refine EW.of ?_); cbv))))
  cases pb with
  | false =>
    rw [if_pos (show (!false) = true from rfl)] at hr
    ((try cbv) <;> (repeat ((with_reducible refine EW.of ?_); cbv)))
    rw [F.added_no] at hr
    subst hr
    cbv
    all_goals ((try cbv) <;> (repeat ((with_reducible refine EW.of ?_); cbv)))
  | true =>
  rw [if_neg (by decide)] at hr
  ((try cbv) <;> (repeat ((with_reducible refine EW.of ?_); cbv)))
  obtain ⟨z, hz⟩ : ∃ z : Store, z = [some (.box 4 (.agg [.int .i64 i, .int .i64 k, .str s, .sl 4 (E.tree.l ks)])), some (.box 5 (.agg [.int .i64 x1, .int .i64 x2, .int .i64 x3, .int .i64 x4, .int .i64 x5]))] := ⟨_, rfl⟩
  obtain ⟨S, hS⟩ : ∃ S : LI Nat, S = ⟨fun j => [(10, .int .i64 j), (7, .int .i64 0), (6, .nils), (5, .ref 1 5 0 0), (3, .ref 0 4 0 0), (1, .sl 5 (F.l.l l))], fun _ => z, fun j => j ≤ l.length ∧ (l.drop j).any (fun y => decide (x1 ≤ y.id)) = ba, fun j => l.length - j⟩ := ⟨_, rfl⟩
  refine TW.loopM A (T0_ok hP) S _ rfl 0 ?_ ?_ ?_
  · rw [hS]; exact ⟨Nat.zero_le _, hba⟩
  · rw [hS, hz]; cbv; (repeat (first | exact trivial | refine And.intro (Emb.Pur _ _) ?_ | refine And.intro rfl ?_ | refine And.intro (Pur.mk rfl) ?_ | refine And.intro (Pur.mk (by assumption)) ?_))
  intro j hj l1 L1 e1 e2; rw [hS] at hj e1 e2; dsimp only at hj e1 e2; obtain ⟨hj, hinv⟩ := hj; subst e1 e2
  rw [hz]
  cbv
  ((try cbv) <;> (repeat ((with_reducible refine EW.of ?_); cbv)))
  refine bsplit (fun h => ?_) (fun h => ?_)
  · have h : j < (F.l.l l).length := lt_nt h rfl (A.ok_len _)
    obtain ⟨y, hy⟩ : ∃ y, l[j]? = some y := ⟨_, List.getElem?_eq_getElem (by omega)⟩
    rw [any_drop hy] at hinv
    obtain ⟨y1, y2, y3, y4, y5⟩ := y
    dsimp only at hinv
    ((try cbv) <;> (repeat ((with_reducible refine EW.of ?_); cbv)))
    (refine TW.draw (A := A) (T0_ok hP) (hP ▸ follows_mixed) (by kernel_rfl) rfl ?_; cbv)
    refine ⟨j, _, rfl, F.get hy, ?_⟩
    cbv
    by_cases h7 : x1 ≤ y1
    · rw [decide_eq_true h7] at hinv
      replace hinv : true = ba := hinv
      subst hinv
      rw [if_pos rfl] at hr
      ((try cbv) <;> (repeat ((with_reducible refine EW.of ?_); cbv)))
      refine byes (leT h7) ?_
      ((try cbv) <;> (repeat ((with_reducible refine EW.of ?_); cbv)))
      rw [F.added_no] at hr
      subst hr
      cbv
      all_goals ((try cbv) <;> (repeat ((with_reducible refine EW.of ?_); cbv)))
    · rw [decide_eq_false h7, Bool.false_or] at hinv
      ((try cbv) <;> (repeat ((with_reducible refine EW.of ?_); cbv)))
      refine bno (leF (by omega)) ?_
      ((try cbv) <;> (repeat ((with_reducible refine EW.of ?_); cbv)))
      refine LM.of (j + 1) rfl ?_ ?_ ?_
      · rw [hS]; exact ⟨by show j + 1 ≤ _; omega, hinv⟩
      · rw [hS]; show l.length - (j + 1) < l.length - j; omega
      · rw [hS, hz]; (cbv; (repeat (first | exact trivial | refine And.intro (Emb.Pur _ _) ?_ | refine And.intro rfl ?_ | refine And.intro (Pur.mk rfl) ?_ | refine And.intro (Pur.mk (by assumption)) ?_)); refine And.intro (inc_eq A (by omega)) ?_; (repeat (first | exact trivial | refine And.intro (Emb.Pur _ _) ?_ | refine And.intro rfl ?_ | refine And.intro (Pur.mk rfl) ?_ | refine And.intro (Pur.mk (by assumption)) ?_)))
  have h : (F.l.l l).length ≤ j := lt_nf h rfl (A.ok_len _)
  rw [List.drop_eq_nil_of_le (by omega)] at hinv
  replace hinv : false = ba := hinv
  subst hinv
  rw [if_neg (by decide)] at hr
  ((try cbv) <;> (repeat ((with_reducible refine EW.of ?_); cbv)))
  (refine ⟨Ent.of (hP ▸ Try.func52) rfl, ?_⟩; refine TC.pureE h51 ?_; cbv; (repeat (first | exact trivial | refine And.intro (Emb.Pur _ _) ?_ | refine And.intro rfl ?_ | refine And.intro (Pur.mk rfl) ?_ | refine And.intro (Pur.mk (by assumption)) ?_)); ((try cbv) <;> (repeat ((with_reducible refine EW.of ?_); cbv))))
  cases wb with
  | true =>
    rw [if_pos rfl] at hr
    ((try cbv) <;> (repeat ((with_reducible refine EW.of ?_); cbv)))
    rw [F.added_no] at hr
    subst hr
    cbv
    all_goals ((try cbv) <;> (repeat ((with_reducible refine EW.of ?_); cbv)))
  | false =>
  rw [if_neg (by decide)] at hr
  ((try cbv) <;> (repeat ((with_reducible refine EW.of ?_); cbv)))
  by_cases h6 : 16 ≤ l.length
  · rw [if_pos h6] at hr
    have h16 : (16 : Int) ≤ A.len (F.l.l l) := by rw [A.ok_len, hll]; omega
    refine byes (leT h16) ?_
    ((try cbv) <;> (repeat ((with_reducible refine EW.of ?_); cbv)))
    rw [F.added_no] at hr
    subst hr
    cbv
    all_goals ((try cbv) <;> (repeat ((with_reducible refine EW.of ?_); cbv)))
  rw [if_neg h6] at hr
  have h16 : A.len (F.l.l l) < (16 : Int) := by rw [A.ok_len, hll]; omega
  refine bno (leF h16) ?_
  ((try cbv) <;> (repeat ((with_reducible refine EW.of ?_); cbv)))
  obtain ⟨l2, hl2⟩ : ∃ l2, l2 = l ++ [⟨x1, x2, x3, x4, x5⟩] := ⟨_, rfl⟩
  rw [← hl2] at hr
  have hl2l : l2.length = l.length + 1 := by rw [hl2]; simp
  unfold EmL.added at hr
  dsimp only at hr
  obtain ⟨q2, hq2⟩ : ∃ q, q = l2.length := ⟨_, rfl⟩
  refine msplit (fun he => ?_) (fun a al he => ?_)
  · have hl0 : l = [] := by
      have h9 : (F.l.l l).length = 0 := by rw [show F.l.l l = [] from he]; rfl
      exact List.eq_nil_of_length_eq_zero (by omega)
    ((try cbv) <;> (repeat ((with_reducible refine EW.of ?_); cbv)))
    refine ⟨⟨rfl⟩, q2, F.l.l l2, by rw [hq2, hl2l, hl0]; rfl, by rw [hl2, hl0]; simp only [List.nil_append, F.l.cons, F.row, F.l.nil]; rfl, Nat.zero_le _, ?_, ?_, ?_⟩
    · rw [hq2, hl2l, hl0]; simp
    · rw [hq2, hl2l, hl0]; simp
    subst hr
    cbv
    ((try cbv) <;> (repeat ((with_reducible refine EW.of ?_); cbv)))
    exact ⟨F.l.cut hq2, F.l.Pur _, trivial⟩
  · have hsc := F.scal l
    obtain ⟨q, hq⟩ : ∃ q, q = l.length := ⟨_, rfl⟩
    have he2 : a :: al = F.l.l l := he.symm
    refine ⟨⟨by rw [he2]; exact hsc.h⟩, q, F.l.l l, by rw [he2, hll, Nat.zero_add, hq], by rw [he2]; rfl, Nat.zero_le _, ?_, ?_, ?_⟩
    · show q * 40 ≤ _
      omega
    · omega
    cbv
    ((try cbv) <;> (repeat ((with_reducible refine EW.of ?_); cbv)))
    refine ⟨⟨rfl⟩, q2, F.l.l l2, by rw [hq2, hl2l, hq]; rfl, by rw [hl2, F.l.app, F.l.cons, F.row, F.l.nil, List.take_of_length_le (show (F.l.l l).length ≤ q by omega)], (show q ≤ (F.l.l l).length by omega), by omega, by omega, ?_⟩
    subst hr
    cbv
    ((try cbv) <;> (repeat ((with_reducible refine EW.of ?_); cbv)))
    exact ⟨F.l.cut hq2, F.l.Pur _, trivial⟩
end Go.Proofs.Ytpjibokaeefhiaa
