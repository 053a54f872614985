import Derived.Test.YtlngpfocngfokaaGd
/-! Grammars that may be, by the reference. -/
namespace Go.Proofs.Ytlngpfocngfokaa
open Go.Proofs.Ytlngpfocngfokaa.Tw
theorem freshB_drop {acc : List ByteArray} {l : List Knd} {j : Nat} {x : Knd} (h : l[j]? = some x) : freshB acc (l.drop j) = ((!(acc.any fun a => decide (a = x.name))) && freshB (acc ++ [x.name]) (l.drop (j + 1))) := by
  rw [List.drop_eq_getElem?_toList_append, h]
  rfl
def nms (ks : List Knd) (j : Nat) : List ByteArray := (ks.take j).map (·.name)
theorem nms_succ {ks : List Knd} {j : Nat} {x : Knd} (h : ks[j]? = some x) : nms ks (j + 1) = nms ks j ++ [x.name] := by
  unfold nms
  rw [List.take_add_one, h]
  simp
theorem nms_get {ks : List Knd} {j i : Nat} {x : Knd} (h : ks[i]? = some x) (hi : i < j) : (nms ks j)[i]? = some x.name := by
  unfold nms
  rw [List.getElem?_map, List.getElem?_take_of_lt hi, h]
  rfl
set_option maxHeartbeats 4000000 in
theorem Check18 (A : Ar) (E : Em) (G : EmG) {P : Program} (hP : P = Try.prog) (g : Gra) (hg : g.ok) : TPure P 18 [G.gv g] (.int .i64 (errC (checkB g))) := by
  obtain ⟨ks, root⟩ := g
  have hll := G.kind.len ks
  have hlk : A.len (G.kind.l ks) = (ks.length : Int) := by rw [A.ok_len, hll]
  have hk9 := hg.kinds
  dsimp only at hk9
  obtain ⟨r, hr⟩ : ∃ r, r = checkB ⟨ks, root⟩ := ⟨_, rfl⟩
  rw [← hr]
  obtain ⟨n, hn⟩ : ∃ n : Int, n = ks.length := ⟨_, rfl⟩
  have hnk : A.len (G.kind.l ks) = n := by rw [hlk, hn]
  unfold checkB at hr
  dsimp only at hr
  replace hr : r = ((decide (1 ≤ ks.length) && (decide (ks.length ≤ 32) && (decide (0 ≤ root) && decide (root < n)))) && (freshB [] ks && ks.all (kindB n))) := by rw [hn]; exact hr
  obtain ⟨e, he⟩ : ∃ e, e = errC r := ⟨_, rfl⟩
  rw [← he]
  unfold EmG.gv
  dsimp only
  refine TPure.ofE A T0 (T0_ok hP) (hP ▸ Try.func18) rfl _ rfl (by simp) ?_
  cbv
  refine EW.vs [(2, .int .i64 0), (1, .imm [.sl 3 (G.kind.l ks), .int .i64 root])] [] 103 rfl ?_
  cbv
  refine And.intro (Pur.mk (by (repeat (first | exact rfl | exact Emb.purL _ _ | assumption | apply pur_cons | apply pur_sl | apply pur_slt | apply pur_agg | apply pur_tup)))) ?_
  cbv
  ((try cbv) <;> (repeat ((with_reducible refine EW.of ?_); cbv)))
  refine bsplit (fun h => ?_) (fun h => ?_)
  · have h : ks.length < 1 := (by first | exact lt_t h (by first | rfl | assumption) (by first | rfl | assumption) | exact le_t h (by first | rfl | assumption) (by first | rfl | assumption) | exact eq_t h (by first | rfl | assumption) (by first | rfl | assumption) | exact ne_t h (by first | rfl | assumption) (by first | rfl | assumption) | exact lt_nt h (by first | rfl | assumption) (by first | rfl | assumption) | exact le_nt h (by first | rfl | assumption) (by first | rfl | assumption) | exact ne_nt h (by first | rfl | assumption) (by first | rfl | assumption) | exact seq_t h | exact (sne_t h))
    replace hr : r = false := by rw [Bool.eq_false_iff]; intro hc; rw [hr] at hc; simp only [Bool.and_eq_true, decide_eq_true_eq] at hc; omega
    subst hr
    replace he : e = 50 := he
    subst he
    cbv
    ((try cbv) <;> (repeat ((with_reducible refine EW.of ?_); cbv)))
  have h : ¬ (ks.length < 1) := (by first | exact not_lt_f h (by first | rfl | assumption) (by first | rfl | assumption) | exact not_le_f h (by first | rfl | assumption) (by first | rfl | assumption) | exact eq_f h (by first | rfl | assumption) (by first | rfl | assumption) | exact not_ne_f h (by first | rfl | assumption) (by first | rfl | assumption) | exact not_lt_nf h (by first | rfl | assumption) (by first | rfl | assumption) | exact not_le_nf h (by first | rfl | assumption) (by first | rfl | assumption) | exact not_ne_nf h (by first | rfl | assumption) (by first | rfl | assumption))
  ((try cbv) <;> (repeat ((with_reducible refine EW.of ?_); cbv)))
  have g1 := h
  refine bsplit (fun h => ?_) (fun h => ?_)
  · have h : 32 < ks.length := (by first | exact lt_t h (by first | rfl | assumption) (by first | rfl | assumption) | exact le_t h (by first | rfl | assumption) (by first | rfl | assumption) | exact eq_t h (by first | rfl | assumption) (by first | rfl | assumption) | exact ne_t h (by first | rfl | assumption) (by first | rfl | assumption) | exact lt_nt h (by first | rfl | assumption) (by first | rfl | assumption) | exact le_nt h (by first | rfl | assumption) (by first | rfl | assumption) | exact ne_nt h (by first | rfl | assumption) (by first | rfl | assumption) | exact seq_t h | exact (sne_t h))
    replace hr : r = false := by rw [Bool.eq_false_iff]; intro hc; rw [hr] at hc; simp only [Bool.and_eq_true, decide_eq_true_eq] at hc; omega
    subst hr
    replace he : e = 50 := he
    subst he
    cbv
    ((try cbv) <;> (repeat ((with_reducible refine EW.of ?_); cbv)))
  have h : ¬ (32 < ks.length) := (by first | exact not_lt_f h (by first | rfl | assumption) (by first | rfl | assumption) | exact not_le_f h (by first | rfl | assumption) (by first | rfl | assumption) | exact eq_f h (by first | rfl | assumption) (by first | rfl | assumption) | exact not_ne_f h (by first | rfl | assumption) (by first | rfl | assumption) | exact not_lt_nf h (by first | rfl | assumption) (by first | rfl | assumption) | exact not_le_nf h (by first | rfl | assumption) (by first | rfl | assumption) | exact not_ne_nf h (by first | rfl | assumption) (by first | rfl | assumption))
  ((try cbv) <;> (repeat ((with_reducible refine EW.of ?_); cbv)))
  have g2 := h
  refine bsplit (fun h => ?_) (fun h => ?_)
  · have h : root < 0 := (by first | exact lt_t h (by first | rfl | assumption) (by first | rfl | assumption) | exact le_t h (by first | rfl | assumption) (by first | rfl | assumption) | exact eq_t h (by first | rfl | assumption) (by first | rfl | assumption) | exact ne_t h (by first | rfl | assumption) (by first | rfl | assumption) | exact lt_nt h (by first | rfl | assumption) (by first | rfl | assumption) | exact le_nt h (by first | rfl | assumption) (by first | rfl | assumption) | exact ne_nt h (by first | rfl | assumption) (by first | rfl | assumption) | exact seq_t h | exact (sne_t h))
    replace hr : r = false := by rw [Bool.eq_false_iff]; intro hc; rw [hr] at hc; simp only [Bool.and_eq_true, decide_eq_true_eq] at hc; omega
    subst hr
    replace he : e = 50 := he
    subst he
    cbv
    ((try cbv) <;> (repeat ((with_reducible refine EW.of ?_); cbv)))
  have h : ¬ (root < 0) := (by first | exact not_lt_f h (by first | rfl | assumption) (by first | rfl | assumption) | exact not_le_f h (by first | rfl | assumption) (by first | rfl | assumption) | exact eq_f h (by first | rfl | assumption) (by first | rfl | assumption) | exact not_ne_f h (by first | rfl | assumption) (by first | rfl | assumption) | exact not_lt_nf h (by first | rfl | assumption) (by first | rfl | assumption) | exact not_le_nf h (by first | rfl | assumption) (by first | rfl | assumption) | exact not_ne_nf h (by first | rfl | assumption) (by first | rfl | assumption))
  ((try cbv) <;> (repeat ((with_reducible refine EW.of ?_); cbv)))
  have g3 := h
  refine bsplit (fun h => ?_) (fun h => ?_)
  · have h : n ≤ root := (by first | exact lt_t h (by first | rfl | assumption) (by first | rfl | assumption) | exact le_t h (by first | rfl | assumption) (by first | rfl | assumption) | exact eq_t h (by first | rfl | assumption) (by first | rfl | assumption) | exact ne_t h (by first | rfl | assumption) (by first | rfl | assumption) | exact lt_nt h (by first | rfl | assumption) (by first | rfl | assumption) | exact le_nt h (by first | rfl | assumption) (by first | rfl | assumption) | exact ne_nt h (by first | rfl | assumption) (by first | rfl | assumption) | exact seq_t h | exact (sne_t h))
    replace hr : r = false := by rw [Bool.eq_false_iff]; intro hc; rw [hr] at hc; simp only [Bool.and_eq_true, decide_eq_true_eq] at hc; omega
    subst hr
    replace he : e = 50 := he
    subst he
    cbv
    ((try cbv) <;> (repeat ((with_reducible refine EW.of ?_); cbv)))
  have h : ¬ (n ≤ root) := (by first | exact not_lt_f h (by first | rfl | assumption) (by first | rfl | assumption) | exact not_le_f h (by first | rfl | assumption) (by first | rfl | assumption) | exact eq_f h (by first | rfl | assumption) (by first | rfl | assumption) | exact not_ne_f h (by first | rfl | assumption) (by first | rfl | assumption) | exact not_lt_nf h (by first | rfl | assumption) (by first | rfl | assumption) | exact not_le_nf h (by first | rfl | assumption) (by first | rfl | assumption) | exact not_ne_nf h (by first | rfl | assumption) (by first | rfl | assumption))
  ((try cbv) <;> (repeat ((with_reducible refine EW.of ?_); cbv)))
  have g4 := h
  replace hr : r = (freshB (nms ks 0) (ks.drop 0) && (ks.drop 0).all (kindB n)) := by
    have e1 : 1 ≤ ks.length := by omega
    have e2 : ks.length ≤ 32 := by omega
    have e3 : 0 ≤ root := by omega
    have e4 : root < n := by omega
    rw [hr]
    simp only [e1, e2, e3, e4, decide_true, Bool.true_and, Bool.and_true, List.drop_zero]
    rfl
  ((try cbv) <;> (repeat ((with_reducible refine EW.of ?_); cbv)))
  obtain ⟨S, hS⟩ : ∃ S : LI Nat, S = ⟨fun j => [(4, .int .i64 j), (3, .int .i64 (A.len (G.kind.l ks))), (2, .int .i64 0), (1, .imm [.sl 3 (G.kind.l ks), .int .i64 root])], fun _ => [], fun j => j ≤ ks.length ∧ r = (freshB (nms ks j) (ks.drop j) && (ks.drop j).all (kindB n)), fun j => ks.length - j⟩ := ⟨_, rfl⟩
  refine TW.loopM A (T0_ok hP) S _ rfl 0 ?_ ?_ ?_
  · rw [hS]; exact ⟨Nat.zero_le _, hr⟩
  · rw [hS]
    cbv
    (repeat (first | exact trivial | refine And.intro (Emb.Pur _ _) ?_ | refine And.intro rfl ?_ | refine And.intro (Pur.mk rfl) ?_))
  intro j hj l1 L1 e1 e2; rw [hS] at hj e1 e2; dsimp only at hj e1 e2; obtain ⟨hj, hinv⟩ := hj; subst e1 e2
  cbv
  ((try cbv) <;> (repeat ((with_reducible refine EW.of ?_); cbv)))
  refine bsplit (fun h => ?_) (fun h => ?_)
  · have h : j < ks.length := lt_nt h rfl hlk
    have hjn : j + 1 ≤ ks.length := h
    obtain ⟨x, hx⟩ : ∃ x, ks[j]? = some x := ⟨_, List.getElem?_eq_getElem h⟩
    rw [all_drop hx, freshB_drop hx, ← nms_succ hx] at hinv
    have hgx := G.getk hx
    have hxs := hg.slots x (List.mem_of_getElem? hx)
    obtain ⟨name, tx, ss⟩ := x
    dsimp only at hgx hxs hinv
    have hsl := G.slot.len ss
    have hsk : A.len (G.slot.l ss) = (ss.length : Int) := by rw [A.ok_len, hsl]
    have hnm := A.ok_slen name
    ((try cbv) <;> (repeat ((with_reducible refine EW.of ?_); cbv)))
    (refine ⟨_, _, rfl, hgx, ?_⟩; cbv; ((try cbv) <;> (repeat ((with_reducible refine EW.of ?_); cbv))))
    refine bsplit (fun h => ?_) (fun h => ?_)
    · have h : name.size < 1 := (by first | exact lt_t h (by first | rfl | assumption) (by first | rfl | assumption) | exact le_t h (by first | rfl | assumption) (by first | rfl | assumption) | exact eq_t h (by first | rfl | assumption) (by first | rfl | assumption) | exact ne_t h (by first | rfl | assumption) (by first | rfl | assumption) | exact lt_nt h (by first | rfl | assumption) (by first | rfl | assumption) | exact le_nt h (by first | rfl | assumption) (by first | rfl | assumption) | exact ne_nt h (by first | rfl | assumption) (by first | rfl | assumption) | exact seq_t h | exact (sne_t h))
      replace hinv : r = false := by rw [Bool.eq_false_iff]; intro hc; rw [hinv] at hc; simp only [kindB, Bool.and_eq_true, decide_eq_true_eq] at hc; omega
      subst hinv
      replace he : e = 50 := he
      subst he
      cbv
      ((try cbv) <;> (repeat ((with_reducible refine EW.of ?_); cbv)))
    have h : ¬ (name.size < 1) := (by first | exact not_lt_f h (by first | rfl | assumption) (by first | rfl | assumption) | exact not_le_f h (by first | rfl | assumption) (by first | rfl | assumption) | exact eq_f h (by first | rfl | assumption) (by first | rfl | assumption) | exact not_ne_f h (by first | rfl | assumption) (by first | rfl | assumption) | exact not_lt_nf h (by first | rfl | assumption) (by first | rfl | assumption) | exact not_le_nf h (by first | rfl | assumption) (by first | rfl | assumption) | exact not_ne_nf h (by first | rfl | assumption) (by first | rfl | assumption))
    ((try cbv) <;> (repeat ((with_reducible refine EW.of ?_); cbv)))
    have g6 := h
    refine bsplit (fun h => ?_) (fun h => ?_)
    · have h : 40 < name.size := (by first | exact lt_t h (by first | rfl | assumption) (by first | rfl | assumption) | exact le_t h (by first | rfl | assumption) (by first | rfl | assumption) | exact eq_t h (by first | rfl | assumption) (by first | rfl | assumption) | exact ne_t h (by first | rfl | assumption) (by first | rfl | assumption) | exact lt_nt h (by first | rfl | assumption) (by first | rfl | assumption) | exact le_nt h (by first | rfl | assumption) (by first | rfl | assumption) | exact ne_nt h (by first | rfl | assumption) (by first | rfl | assumption) | exact seq_t h | exact (sne_t h))
      replace hinv : r = false := by rw [Bool.eq_false_iff]; intro hc; rw [hinv] at hc; simp only [kindB, Bool.and_eq_true, decide_eq_true_eq] at hc; omega
      subst hinv
      replace he : e = 50 := he
      subst he
      cbv
      ((try cbv) <;> (repeat ((with_reducible refine EW.of ?_); cbv)))
    have h : ¬ (40 < name.size) := (by first | exact not_lt_f h (by first | rfl | assumption) (by first | rfl | assumption) | exact not_le_f h (by first | rfl | assumption) (by first | rfl | assumption) | exact eq_f h (by first | rfl | assumption) (by first | rfl | assumption) | exact not_ne_f h (by first | rfl | assumption) (by first | rfl | assumption) | exact not_lt_nf h (by first | rfl | assumption) (by first | rfl | assumption) | exact not_le_nf h (by first | rfl | assumption) (by first | rfl | assumption) | exact not_ne_nf h (by first | rfl | assumption) (by first | rfl | assumption))
    ((try cbv) <;> (repeat ((with_reducible refine EW.of ?_); cbv)))
    have g7 := h
    refine bsplit (fun h => ?_) (fun h => ?_)
    · have h : 8 < ss.length := (by first | exact lt_t h (by first | rfl | assumption) (by first | rfl | assumption) | exact le_t h (by first | rfl | assumption) (by first | rfl | assumption) | exact eq_t h (by first | rfl | assumption) (by first | rfl | assumption) | exact ne_t h (by first | rfl | assumption) (by first | rfl | assumption) | exact lt_nt h (by first | rfl | assumption) (by first | rfl | assumption) | exact le_nt h (by first | rfl | assumption) (by first | rfl | assumption) | exact ne_nt h (by first | rfl | assumption) (by first | rfl | assumption) | exact seq_t h | exact (sne_t h))
      replace hinv : r = false := by rw [Bool.eq_false_iff]; intro hc; rw [hinv] at hc; simp only [kindB, Bool.and_eq_true, decide_eq_true_eq] at hc; omega
      subst hinv
      replace he : e = 50 := he
      subst he
      cbv
      ((try cbv) <;> (repeat ((with_reducible refine EW.of ?_); cbv)))
    have h : ¬ (8 < ss.length) := (by first | exact not_lt_f h (by first | rfl | assumption) (by first | rfl | assumption) | exact not_le_f h (by first | rfl | assumption) (by first | rfl | assumption) | exact eq_f h (by first | rfl | assumption) (by first | rfl | assumption) | exact not_ne_f h (by first | rfl | assumption) (by first | rfl | assumption) | exact not_lt_nf h (by first | rfl | assumption) (by first | rfl | assumption) | exact not_le_nf h (by first | rfl | assumption) (by first | rfl | assumption) | exact not_ne_nf h (by first | rfl | assumption) (by first | rfl | assumption))
    ((try cbv) <;> (repeat ((with_reducible refine EW.of ?_); cbv)))
    obtain ⟨rest, hrest⟩ : ∃ b, b = freshB (nms ks (j + 1)) (ks.drop (j + 1)) := ⟨_, rfl⟩
    obtain ⟨rest2, hrest2⟩ : ∃ b, b = (ks.drop (j + 1)).all (kindB n) := ⟨_, rfl⟩
    rw [← hrest, ← hrest2] at hinv
    replace hinv : r = ((!(((nms ks j).drop 0).any fun a => decide (a = name))) && (rest && (ss.all (slotB n) && rest2))) := by
      have e1 : 1 ≤ name.size := by omega
      have e2 : name.size ≤ 40 := by omega
      have e3 : ss.length ≤ 8 := by omega
      rw [hinv, kindB]
      simp only [e1, e2, e3, decide_true, Bool.true_and, List.drop_zero, Bool.and_assoc]
    obtain ⟨S1, hS1⟩ : ∃ S : LI Nat, S = ⟨fun i => [(6, .int .i64 i), (5, .ref 0 3 0 0), (4, .int .i64 j), (3, .int .i64 (A.len (G.kind.l ks))), (2, .int .i64 0), (1, .imm [.sl 3 (G.kind.l ks), .int .i64 root])], fun _ => [some (.box 3 (.agg [.str name, .bool tx, .sl 3 (G.slot.l ss)]))], fun i => i ≤ j ∧ r = ((!(((nms ks j).drop i).any fun a => decide (a = name))) && (rest && (ss.all (slotB n) && rest2))), fun i => j - i⟩ := ⟨_, rfl⟩
    ((try cbv) <;> (repeat ((with_reducible refine EW.of ?_); cbv)))
    refine TW.loopM A (T0_ok hP) S1 _ rfl 0 ?_ ?_ ?_
    · rw [hS1]; exact ⟨Nat.zero_le _, hinv⟩
    · rw [hS1]
      cbv
      (repeat (first | exact trivial | refine And.intro (Emb.Pur _ _) ?_ | refine And.intro rfl ?_ | refine And.intro (Pur.mk rfl) ?_))
    intro i hj l1 L1 e1 e2; rw [hS1] at hj e1 e2; dsimp only at hj e1 e2; obtain ⟨hi, hinv⟩ := hj; subst e1 e2
    cbv
    ((try cbv) <;> (repeat ((with_reducible refine EW.of ?_); cbv)))
    refine bsplit (fun h3 => ?_) (fun h3 => ?_)
    · have h3 : i < j := lt_nt h3 rfl rfl
      obtain ⟨y, hy⟩ : ∃ y, ks[i]? = some y := ⟨_, List.getElem?_eq_getElem (by omega)⟩
      rw [any_drop (nms_get hy h3)] at hinv
      have hgy := G.getk hy
      obtain ⟨yn, yt, ys⟩ := y
      dsimp only at hgy hinv
      ((try cbv) <;> (repeat ((with_reducible refine EW.of ?_); cbv)))
      (refine TW.draw (A := A) (T0_ok hP) (hP ▸ follows_mixed) (by kernel_rfl) rfl ?_; cbv)
      (refine ⟨_, _, rfl, hgy, ?_⟩; cbv; ((try cbv) <;> (repeat ((with_reducible refine EW.of ?_); cbv))))
      refine bsplit (fun h4 => ?_) (fun h4 => ?_)
      · have h4 : yn = name := strEq_iff.1 (seq_t h4)
        replace hinv : r = false := by rw [hinv, decide_eq_true h4]; rfl
        subst hinv
        replace he : e = 50 := he
        subst he
        cbv
        ((try cbv) <;> (repeat ((with_reducible refine EW.of ?_); cbv)))
      · have h4 : yn ≠ name := strEq_ne.1 (seq_f h4)
        rw [decide_eq_false h4, Bool.false_or] at hinv
        ((try cbv) <;> (repeat ((with_reducible refine EW.of ?_); cbv)))
        refine LM.of (i + 1) rfl ?_ ?_ ?_
        · rw [hS1]; exact ⟨by show i + 1 ≤ _; omega, hinv⟩
        · rw [hS1]; show j - (i + 1) < j - i; omega
        · rw [hS1]; (cbv; (repeat (first | exact trivial | refine And.intro (Emb.Pur _ _) ?_ | refine And.intro rfl ?_ | refine And.intro (Pur.mk rfl) ?_ | refine And.intro (Pur.mk (by assumption)) ?_)); refine And.intro (inc_eq A (by omega)) ?_; (repeat (first | exact trivial | refine And.intro (Emb.Pur _ _) ?_ | refine And.intro rfl ?_ | refine And.intro (Pur.mk rfl) ?_ | refine And.intro (Pur.mk (by assumption)) ?_)))
    · have h3 : j ≤ i := lt_nf h3 rfl rfl
      rw [List.drop_eq_nil_of_le (by unfold nms; simp; omega)] at hinv
      replace hinv : r = (rest && (((ss.drop 0).all (slotB n) && rest2))) := by rw [hinv]; rfl
      obtain ⟨S2, hS2⟩ : ∃ S : LI Nat, S = ⟨fun i => [(7, .int .i64 i), (5, .ref 0 3 0 0), (4, .int .i64 j), (3, .int .i64 (A.len (G.kind.l ks))), (2, .int .i64 0), (1, .imm [.sl 3 (G.kind.l ks), .int .i64 root])], fun _ => [some (.box 3 (.agg [.str name, .bool tx, .sl 3 (G.slot.l ss)]))], fun i => i ≤ ss.length ∧ r = (rest && (((ss.drop i).all (slotB n) && rest2))), fun i => ss.length - i⟩ := ⟨_, rfl⟩
      ((try cbv) <;> (repeat ((with_reducible refine EW.of ?_); cbv)))
      refine TW.loopM A (T0_ok hP) S2 _ rfl 0 ?_ ?_ ?_
      · rw [hS2]; exact ⟨Nat.zero_le _, hinv⟩
      · rw [hS2]
        cbv
        (repeat (first | exact trivial | refine And.intro (Emb.Pur _ _) ?_ | refine And.intro rfl ?_ | refine And.intro (Pur.mk rfl) ?_))
      intro i hj l1 L1 e1 e2; rw [hS2] at hj e1 e2; dsimp only at hj e1 e2; obtain ⟨hi', hinv⟩ := hj; subst e1 e2
      cbv
      ((try cbv) <;> (repeat ((with_reducible refine EW.of ?_); cbv)))
      refine bsplit (fun h3 => ?_) (fun h3 => ?_)
      · have h3 : i < ss.length := lt_nt h3 rfl hsk
        obtain ⟨y, hy⟩ : ∃ y, ss[i]? = some y := ⟨_, List.getElem?_eq_getElem h3⟩
        rw [all_drop hy] at hinv
        have hgy := G.gets E hy
        have k44 := rising44 A E hP y.kinds (hxs.2 y (List.mem_of_getElem? hy)) n
        rw [← hnk] at k44
        rw [hnk] at k44
        obtain ⟨b, hb⟩ : ∃ b, b = risB n y.kinds := ⟨_, rfl⟩
        rw [← hb] at k44
        rw [slotB, ← hb] at hinv
        rw [← hnk] at k44
        obtain ⟨yk, yl, ym⟩ := y
        dsimp only at hgy k44 hinv
        ((try cbv) <;> (repeat ((with_reducible refine EW.of ?_); cbv)))
        (refine ⟨_, _, rfl, hgy, ?_⟩; cbv; ((try cbv) <;> (repeat ((with_reducible refine EW.of ?_); cbv))))
        (refine ⟨Ent.of (hP ▸ Try.func44) rfl, ?_⟩; refine TC.pureE k44 ?_; cbv; (repeat (first | exact trivial | refine And.intro (Emb.Pur _ _) ?_ | refine And.intro rfl ?_ | refine And.intro (Pur.mk rfl) ?_ | refine And.intro (Pur.mk (by assumption)) ?_)); ((try cbv) <;> (repeat ((with_reducible refine EW.of ?_); cbv))))
        cases b with
        | false =>
          replace hinv : r = false := by rw [hinv]; cases rest <;> rfl
          subst hinv
          replace he : e = 50 := he
          subst he
          ((try cbv) <;> (repeat ((with_reducible refine EW.of ?_); cbv)))
        | true =>
          ((try cbv) <;> (repeat ((with_reducible refine EW.of ?_); cbv)))
          refine bsplit (fun h => ?_) (fun h => ?_)
          · have h : yl < 0 := (by first | exact lt_t h (by first | rfl | assumption) (by first | rfl | assumption) | exact le_t h (by first | rfl | assumption) (by first | rfl | assumption) | exact eq_t h (by first | rfl | assumption) (by first | rfl | assumption) | exact ne_t h (by first | rfl | assumption) (by first | rfl | assumption) | exact lt_nt h (by first | rfl | assumption) (by first | rfl | assumption) | exact le_nt h (by first | rfl | assumption) (by first | rfl | assumption) | exact ne_nt h (by first | rfl | assumption) (by first | rfl | assumption) | exact seq_t h | exact (sne_t h))
            replace hinv : r = false := by rw [Bool.eq_false_iff]; intro hc; rw [hinv] at hc; simp only [Bool.and_eq_true, decide_eq_true_eq] at hc; omega
            subst hinv
            replace he : e = 50 := he
            subst he
            cbv
            ((try cbv) <;> (repeat ((with_reducible refine EW.of ?_); cbv)))
          have h : ¬ (yl < 0) := (by first | exact not_lt_f h (by first | rfl | assumption) (by first | rfl | assumption) | exact not_le_f h (by first | rfl | assumption) (by first | rfl | assumption) | exact eq_f h (by first | rfl | assumption) (by first | rfl | assumption) | exact not_ne_f h (by first | rfl | assumption) (by first | rfl | assumption) | exact not_lt_nf h (by first | rfl | assumption) (by first | rfl | assumption) | exact not_le_nf h (by first | rfl | assumption) (by first | rfl | assumption) | exact not_ne_nf h (by first | rfl | assumption) (by first | rfl | assumption))
          ((try cbv) <;> (repeat ((with_reducible refine EW.of ?_); cbv)))
          have f1 := h
          refine bsplit (fun h => ?_) (fun h => ?_)
          · have h : ym < yl := (by first | exact lt_t h (by first | rfl | assumption) (by first | rfl | assumption) | exact le_t h (by first | rfl | assumption) (by first | rfl | assumption) | exact eq_t h (by first | rfl | assumption) (by first | rfl | assumption) | exact ne_t h (by first | rfl | assumption) (by first | rfl | assumption) | exact lt_nt h (by first | rfl | assumption) (by first | rfl | assumption) | exact le_nt h (by first | rfl | assumption) (by first | rfl | assumption) | exact ne_nt h (by first | rfl | assumption) (by first | rfl | assumption) | exact seq_t h | exact (sne_t h))
            replace hinv : r = false := by rw [Bool.eq_false_iff]; intro hc; rw [hinv] at hc; simp only [Bool.and_eq_true, decide_eq_true_eq] at hc; omega
            subst hinv
            replace he : e = 50 := he
            subst he
            cbv
            ((try cbv) <;> (repeat ((with_reducible refine EW.of ?_); cbv)))
          have h : ¬ (ym < yl) := (by first | exact not_lt_f h (by first | rfl | assumption) (by first | rfl | assumption) | exact not_le_f h (by first | rfl | assumption) (by first | rfl | assumption) | exact eq_f h (by first | rfl | assumption) (by first | rfl | assumption) | exact not_ne_f h (by first | rfl | assumption) (by first | rfl | assumption) | exact not_lt_nf h (by first | rfl | assumption) (by first | rfl | assumption) | exact not_le_nf h (by first | rfl | assumption) (by first | rfl | assumption) | exact not_ne_nf h (by first | rfl | assumption) (by first | rfl | assumption))
          ((try cbv) <;> (repeat ((with_reducible refine EW.of ?_); cbv)))
          have f2 := h
          refine bsplit (fun h => ?_) (fun h => ?_)
          · have h : 1000 < ym := (by first | exact lt_t h (by first | rfl | assumption) (by first | rfl | assumption) | exact le_t h (by first | rfl | assumption) (by first | rfl | assumption) | exact eq_t h (by first | rfl | assumption) (by first | rfl | assumption) | exact ne_t h (by first | rfl | assumption) (by first | rfl | assumption) | exact lt_nt h (by first | rfl | assumption) (by first | rfl | assumption) | exact le_nt h (by first | rfl | assumption) (by first | rfl | assumption) | exact ne_nt h (by first | rfl | assumption) (by first | rfl | assumption) | exact seq_t h | exact (sne_t h))
            replace hinv : r = false := by rw [Bool.eq_false_iff]; intro hc; rw [hinv] at hc; simp only [Bool.and_eq_true, decide_eq_true_eq] at hc; omega
            subst hinv
            replace he : e = 50 := he
            subst he
            cbv
            ((try cbv) <;> (repeat ((with_reducible refine EW.of ?_); cbv)))
          have h : ¬ (1000 < ym) := (by first | exact not_lt_f h (by first | rfl | assumption) (by first | rfl | assumption) | exact not_le_f h (by first | rfl | assumption) (by first | rfl | assumption) | exact eq_f h (by first | rfl | assumption) (by first | rfl | assumption) | exact not_ne_f h (by first | rfl | assumption) (by first | rfl | assumption) | exact not_lt_nf h (by first | rfl | assumption) (by first | rfl | assumption) | exact not_le_nf h (by first | rfl | assumption) (by first | rfl | assumption) | exact not_ne_nf h (by first | rfl | assumption) (by first | rfl | assumption))
          ((try cbv) <;> (repeat ((with_reducible refine EW.of ?_); cbv)))
          replace hinv : r = (rest && (((ss.drop (i + 1)).all (slotB n) && rest2))) := by
            have e1 : 0 ≤ yl := by omega
            have e2 : yl ≤ ym := by omega
            have e3 : ym ≤ 1000 := by omega
            rw [hinv]
            simp only [e1, e2, e3, decide_true, Bool.true_and]
          refine LM.of (i + 1) rfl ?_ ?_ ?_
          · rw [hS2]; exact ⟨by show i + 1 ≤ _; omega, hinv⟩
          · rw [hS2]; show ss.length - (i + 1) < ss.length - i; omega
          · rw [hS2]; (cbv; (repeat (first | exact trivial | refine And.intro (Emb.Pur _ _) ?_ | refine And.intro rfl ?_ | refine And.intro (Pur.mk rfl) ?_ | refine And.intro (Pur.mk (by assumption)) ?_)); refine And.intro (inc_eq A (by omega)) ?_; (repeat (first | exact trivial | refine And.intro (Emb.Pur _ _) ?_ | refine And.intro rfl ?_ | refine And.intro (Pur.mk rfl) ?_ | refine And.intro (Pur.mk (by assumption)) ?_)))
      · have h3 : ss.length ≤ i := lt_nf h3 rfl hsk
        rw [List.drop_eq_nil_of_le h3, hrest, hrest2] at hinv
        ((try cbv) <;> (repeat ((with_reducible refine EW.of ?_); cbv)))
        refine LM.of (j + 1) rfl ?_ ?_ ?_
        · rw [hS]; exact ⟨hjn, by rw [hinv]; rfl⟩
        · rw [hS]; show ks.length - (j + 1) < ks.length - j; omega
        · rw [hS]; (cbv; (repeat (first | exact trivial | refine And.intro (Emb.Pur _ _) ?_ | refine And.intro rfl ?_ | refine And.intro (Pur.mk rfl) ?_ | refine And.intro (Pur.mk (by assumption)) ?_)); refine And.intro (inc_eq A (by omega)) ?_; (repeat (first | exact trivial | refine And.intro (Emb.Pur _ _) ?_ | refine And.intro rfl ?_ | refine And.intro (Pur.mk rfl) ?_ | refine And.intro (Pur.mk (by assumption)) ?_)))
  · have h : ks.length ≤ j := lt_nf h rfl hlk
    rw [List.drop_eq_nil_of_le h] at hinv
    replace hinv : r = true := hinv
    subst hinv
    replace he : e = 0 := he
    subst he
    ((try cbv) <;> (repeat ((with_reducible refine EW.of ?_); cbv)))
end Go.Proofs.Ytlngpfocngfokaa
