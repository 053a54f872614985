import Derived.Test.YtlngpfocngfokaaGc
/-! Grammars that may be. -/
namespace Go.Proofs.Ytlngpfocngfokaa
open Go.Proofs.Ytlngpfocngfokaa.Tw
def kindB (n : Int) (k : Knd) : Bool := decide (1 ≤ k.name.size) && (decide (k.name.size ≤ 40) && (decide (k.slots.length ≤ 8) && k.slots.all (slotB n)))
def freshB : List ByteArray → List Knd → Bool
  | _, [] => true
  | acc, k :: ks => (!(acc.any fun a => decide (a = k.name))) && freshB (acc ++ [k.name]) ks
def checkB (g : Gra) : Bool := (decide (1 ≤ g.kinds.length) && (decide (g.kinds.length ≤ 32) && (decide (0 ≤ g.root) && decide (g.root < g.kinds.length)))) && (freshB [] g.kinds && g.kinds.all (kindB g.kinds.length))
def errC (b : Bool) : Int := if b then 0 else 50
theorem upS_len (c : Nat) (k : ByteArray) (v : Int) : ∀ m : EntS, ((upS c k v m).2.map fun x => x.2.1) = if (m.map fun x => x.2.1).any (fun a => decide (a = k)) then (m.map fun x => x.2.1) else (m.map fun x => x.2.1) ++ [k]
  | [] => rfl
  | x :: m => by
    have ih := upS_len c k v m
    unfold upS
    by_cases h : k = x.2.1
    · rw [if_pos h]
      simp [h]
    · rw [if_neg h]
      have h' : ¬ x.2.1 = k := fun e => h e.symm
      simp only [List.map_cons, List.any_cons, decide_eq_false h', Bool.false_or, ih]
      split <;> rfl
theorem namesS_len : ∀ (ks : List Knd) (j : Nat) (s : Nat × EntS), (namesS ks j s).2.length ≤ s.2.length + ks.length ∧ (freshB (s.2.map fun x => x.2.1) ks = true ↔ (namesS ks j s).2.length = s.2.length + ks.length)
  | [], j, s => ⟨Nat.le_refl _, ⟨fun _ => rfl, fun _ => rfl⟩⟩
  | k :: ks, j, s => by
    obtain ⟨h1, h2⟩ := namesS_len ks (j + 1) (upS s.1 k.name j s.2)
    have hu := upS_len s.1 k.name j s.2
    rw [namesS, freshB]
    cases ha : (s.2.map fun x => x.2.1).any (fun a => decide (a = k.name)) with
    | true =>
      rw [ha, if_pos rfl] at hu
      have hl : (upS s.1 k.name j s.2).2.length = s.2.length := by
        have := congrArg List.length hu
        simpa using this
      rw [hl] at h1
      refine ⟨by rw [List.length_cons]; omega, ?_⟩
      rw [List.length_cons]
      constructor
      · intro h; simp at h
      · intro h; omega
    | false =>
      rw [ha, if_neg (by decide)] at hu
      have hl : (upS s.1 k.name j s.2).2.length = s.2.length + 1 := by
        have := congrArg List.length hu
        simpa using this
      rw [hl] at h1 h2
      rw [hu] at h2
      refine ⟨by rw [List.length_cons]; omega, ?_⟩
      rw [List.length_cons, Bool.not_false, Bool.true_and, h2]
      omega
theorem names_fresh {ks : List Knd} {c : Nat} {es : EntS} (h : namesS ks 0 (0, []) = (c, es)) : freshB [] ks = decide (es.length = ks.length) := by
  have := (namesS_len ks 0 (0, [])).2
  rw [h] at this
  rw [Bool.eq_iff_iff, decide_eq_true_eq]
  simpa using this
theorem all_drop {α : Type} {p : α → Bool} {l : List α} {j : Nat} {x : α} (h : l[j]? = some x) : (l.drop j).all p = (p x && (l.drop (j + 1)).all p) := by
  rw [List.drop_eq_getElem?_toList_append, h]
  simp
set_option maxHeartbeats 2000000 in
theorem Check14 (A : Ar) (E : Em) (G : EmG) (H : EmN) {P : Program} (hP : P = Try.prog) (g : Gra) (hg : g.ok) : TPure P 14 [G.gv g] (.int .i64 (errC (checkB g))) := by
  obtain ⟨ks, root⟩ := g
  have hll := G.kind.len ks
  have hlk : A.len (G.kind.l ks) = (ks.length : Int) := by rw [A.ok_len, hll]
  have hk9 := hg.kinds
  dsimp only at hk9
  obtain ⟨c, es, hns⟩ : ∃ c es, namesS ks 0 (0, []) = (c, es) := ⟨_, _, rfl⟩
  have h40 := names40 A G H hP ks root hk9 c es hns
  have hfr := names_fresh hns
  obtain ⟨q, hq⟩ : ∃ q, q = es.length := ⟨_, rfl⟩
  have hel := H.len es
  have hql : (((H.l es).length : Nat) : Int) = (q : Int) := by rw [hel, hq]
  rw [← hq] at hfr
  obtain ⟨r, hr⟩ : ∃ r, r = checkB ⟨ks, root⟩ := ⟨_, rfl⟩
  rw [← hr]
  obtain ⟨n, hn⟩ : ∃ n : Int, n = ks.length := ⟨_, rfl⟩
  unfold checkB at hr
  dsimp only at hr
  rw [hfr] at hr
  replace hr : r = ((decide (1 ≤ ks.length) && (decide (ks.length ≤ 32) && (decide (0 ≤ root) && decide (root < n)))) && (decide (q = ks.length) && ks.all (kindB n))) := by rw [hn]; exact hr
  obtain ⟨e, he⟩ : ∃ e, e = errC r := ⟨_, rfl⟩
  rw [← he]
  unfold EmG.gv
  dsimp only
  refine TPure.ofE A T0 (T0_ok hP) (hP ▸ Try.func14) rfl _ rfl (by simp) ?_
  cbv
  refine EW.vs [(2, .int .i64 0), (1, .imm [.sl 3 (G.kind.l ks), .int .i64 root])] [] 84 rfl ?_
  cbv
  refine And.intro (Pur.mk (by (repeat (first | exact rfl | exact Emb.purL _ _ | assumption | apply pur_cons | apply pur_sl | apply pur_slt | apply pur_agg | apply pur_tup)))) ?_
  cbv
  ((try cbv) <;> (repeat ((with_reducible refine EW.of ?_); cbv)))
  refine bsplit (fun h => ?_) (fun h => ?_)
  · have h : ks.length < 1 := (by first | exact lt_t h (by first | rfl | assumption) (by first | rfl | assumption) | exact le_t h (by first | rfl | assumption) (by first | rfl | assumption) | exact eq_t h (by first | rfl | assumption) (by first | rfl | assumption) | exact ne_t h (by first | rfl | assumption) (by first | rfl | assumption) | exact lt_nt h (by first | rfl | assumption) (by first | rfl | assumption) | exact le_nt h (by first | rfl | assumption) (by first | rfl | assumption) | exact ne_nt h (by first | rfl | assumption) (by first | rfl | assumption) | exact seq_t h | exact (sne_t h))
    replace hr : r = false := by rw [Bool.eq_false_iff]; intro hc; rw [hr] at hc; simp only [Bool.and_eq_true, decide_eq_true_eq] at hc; omega
    subst hr
    replace he : e = 50 := he
    subst he
    cbv
    ((try cbv) <;> (repeat ((with_reducible refine EW.of ?_); cbv)))
  have h : ¬ (ks.length < 1) := (by first | exact not_lt_f h (by first | rfl | assumption) (by first | rfl | assumption) | exact not_le_f h (by first | rfl | assumption) (by first | rfl | assumption) | exact eq_f h (by first | rfl | assumption) (by first | rfl | assumption) | exact not_ne_f h (by first | rfl | assumption) (by first | rfl | assumption) | exact not_lt_nf h (by first | rfl | assumption) (by first | rfl | assumption) | exact not_le_nf h (by first | rfl | assumption) (by first | rfl | assumption) | exact not_ne_nf h (by first | rfl | assumption) (by first | rfl | assumption))
  ((try cbv) <;> (repeat ((with_reducible refine EW.of ?_); cbv)))
  have g1 := h
  refine bsplit (fun h => ?_) (fun h => ?_)
  · have h : 32 < ks.length := (by first | exact lt_t h (by first | rfl | assumption) (by first | rfl | assumption) | exact le_t h (by first | rfl | assumption) (by first | rfl | assumption) | exact eq_t h (by first | rfl | assumption) (by first | rfl | assumption) | exact ne_t h (by first | rfl | assumption) (by first | rfl | assumption) | exact lt_nt h (by first | rfl | assumption) (by first | rfl | assumption) | exact le_nt h (by first | rfl | assumption) (by first | rfl | assumption) | exact ne_nt h (by first | rfl | assumption) (by first | rfl | assumption) | exact seq_t h | exact (sne_t h))
    replace hr : r = false := by rw [Bool.eq_false_iff]; intro hc; rw [hr] at hc; simp only [Bool.and_eq_true, decide_eq_true_eq] at hc; omega
    subst hr
    replace he : e = 50 := he
    subst he
    cbv
    ((try cbv) <;> (repeat ((with_reducible refine EW.of ?_); cbv)))
  have h : ¬ (32 < ks.length) := (by first | exact not_lt_f h (by first | rfl | assumption) (by first | rfl | assumption) | exact not_le_f h (by first | rfl | assumption) (by first | rfl | assumption) | exact eq_f h (by first | rfl | assumption) (by first | rfl | assumption) | exact not_ne_f h (by first | rfl | assumption) (by first | rfl | assumption) | exact not_lt_nf h (by first | rfl | assumption) (by first | rfl | assumption) | exact not_le_nf h (by first | rfl | assumption) (by first | rfl | assumption) | exact not_ne_nf h (by first | rfl | assumption) (by first | rfl | assumption))
  ((try cbv) <;> (repeat ((with_reducible refine EW.of ?_); cbv)))
  have g2 := h
  refine bsplit (fun h => ?_) (fun h => ?_)
  · have h : root < 0 := (by first | exact lt_t h (by first | rfl | assumption) (by first | rfl | assumption) | exact le_t h (by first | rfl | assumption) (by first | rfl | assumption) | exact eq_t h (by first | rfl | assumption) (by first | rfl | assumption) | exact ne_t h (by first | rfl | assumption) (by first | rfl | assumption) | exact lt_nt h (by first | rfl | assumption) (by first | rfl | assumption) | exact le_nt h (by first | rfl | assumption) (by first | rfl | assumption) | exact ne_nt h (by first | rfl | assumption) (by first | rfl | assumption) | exact seq_t h | exact (sne_t h))
    replace hr : r = false := by rw [Bool.eq_false_iff]; intro hc; rw [hr] at hc; simp only [Bool.and_eq_true, decide_eq_true_eq] at hc; omega
    subst hr
    replace he : e = 50 := he
    subst he
    cbv
    ((try cbv) <;> (repeat ((with_reducible refine EW.of ?_); cbv)))
  have h : ¬ (root < 0) := (by first | exact not_lt_f h (by first | rfl | assumption) (by first | rfl | assumption) | exact not_le_f h (by first | rfl | assumption) (by first | rfl | assumption) | exact eq_f h (by first | rfl | assumption) (by first | rfl | assumption) | exact not_ne_f h (by first | rfl | assumption) (by first | rfl | assumption) | exact not_lt_nf h (by first | rfl | assumption) (by first | rfl | assumption) | exact not_le_nf h (by first | rfl | assumption) (by first | rfl | assumption) | exact not_ne_nf h (by first | rfl | assumption) (by first | rfl | assumption))
  ((try cbv) <;> (repeat ((with_reducible refine EW.of ?_); cbv)))
  have g3 := h
  have hnk : A.len (G.kind.l ks) = n := by rw [hlk, hn]
  refine bsplit (fun h => ?_) (fun h => ?_)
  · have h : n ≤ root := (by first | exact lt_t h (by first | rfl | assumption) (by first | rfl | assumption) | exact le_t h (by first | rfl | assumption) (by first | rfl | assumption) | exact eq_t h (by first | rfl | assumption) (by first | rfl | assumption) | exact ne_t h (by first | rfl | assumption) (by first | rfl | assumption) | exact lt_nt h (by first | rfl | assumption) (by first | rfl | assumption) | exact le_nt h (by first | rfl | assumption) (by first | rfl | assumption) | exact ne_nt h (by first | rfl | assumption) (by first | rfl | assumption) | exact seq_t h | exact (sne_t h))
    replace hr : r = false := by rw [Bool.eq_false_iff]; intro hc; rw [hr] at hc; simp only [Bool.and_eq_true, decide_eq_true_eq] at hc; omega
    subst hr
    replace he : e = 50 := he
    subst he
    cbv
    ((try cbv) <;> (repeat ((with_reducible refine EW.of ?_); cbv)))
  have h : ¬ (n ≤ root) := (by first | exact not_lt_f h (by first | rfl | assumption) (by first | rfl | assumption) | exact not_le_f h (by first | rfl | assumption) (by first | rfl | assumption) | exact eq_f h (by first | rfl | assumption) (by first | rfl | assumption) | exact not_ne_f h (by first | rfl | assumption) (by first | rfl | assumption) | exact not_lt_nf h (by first | rfl | assumption) (by first | rfl | assumption) | exact not_le_nf h (by first | rfl | assumption) (by first | rfl | assumption) | exact not_ne_nf h (by first | rfl | assumption) (by first | rfl | assumption))
  ((try cbv) <;> (repeat ((with_reducible refine EW.of ?_); cbv)))
  have g4 := h
  refine ⟨Ent.of (hP ▸ Try.func40) rfl, ?_⟩
  refine TC1.call [] h40 ?_
  cbv
  (repeat (first | exact trivial | refine And.intro (H.pur _) ?_ | refine And.intro (Emb.Pur _ _) ?_ | refine And.intro rfl ?_ | refine And.intro (Pur.mk rfl) ?_))
  refine ⟨q, by rw [hq]; exact hel.symm, ?_⟩
  cbv
  ((try cbv) <;> (repeat ((with_reducible refine EW.of ?_); cbv)))
  refine bsplit (fun h => ?_) (fun h => ?_)
  · have h : q ≠ ks.length := (by first | exact lt_t h (by first | rfl | assumption) (by first | rfl | assumption) | exact le_t h (by first | rfl | assumption) (by first | rfl | assumption) | exact eq_t h (by first | rfl | assumption) (by first | rfl | assumption) | exact ne_t h (by first | rfl | assumption) (by first | rfl | assumption) | exact lt_nt h (by first | rfl | assumption) (by first | rfl | assumption) | exact le_nt h (by first | rfl | assumption) (by first | rfl | assumption) | exact ne_nt h (by first | rfl | assumption) (by first | rfl | assumption) | exact seq_t h | exact (sne_t h))
    replace hr : r = false := by rw [Bool.eq_false_iff]; intro hc; rw [hr] at hc; simp only [Bool.and_eq_true, decide_eq_true_eq] at hc; omega
    subst hr
    replace he : e = 50 := he
    subst he
    cbv
    ((try cbv) <;> (repeat ((with_reducible refine EW.of ?_); cbv)))
  have h : ¬ (q ≠ ks.length) := (by first | exact not_lt_f h (by first | rfl | assumption) (by first | rfl | assumption) | exact not_le_f h (by first | rfl | assumption) (by first | rfl | assumption) | exact eq_f h (by first | rfl | assumption) (by first | rfl | assumption) | exact not_ne_f h (by first | rfl | assumption) (by first | rfl | assumption) | exact not_lt_nf h (by first | rfl | assumption) (by first | rfl | assumption) | exact not_le_nf h (by first | rfl | assumption) (by first | rfl | assumption) | exact not_ne_nf h (by first | rfl | assumption) (by first | rfl | assumption))
  ((try cbv) <;> (repeat ((with_reducible refine EW.of ?_); cbv)))
  have g5 : q = ks.length := Decidable.not_not.1 h
  replace hr : r = (ks.drop 0).all (kindB n) := by
    have e1 : 1 ≤ ks.length := by omega
    have e2 : ks.length ≤ 32 := by omega
    have e3 : 0 ≤ root := by omega
    have e4 : root < n := by omega
    rw [hr]
    simp only [e1, e2, e3, e4, g5, decide_true, Bool.true_and, Bool.and_true, List.drop_zero]
  obtain ⟨S, hS⟩ : ∃ S : LI Nat, S = ⟨fun j => [(36, .int .i64 j), (35, .int .i64 (A.len (G.kind.l ks))), (3, .int .i64 (A.len (G.kind.l ks))), (2, .int .i64 0), (1, .imm [.sl 3 (G.kind.l ks), .int .i64 root])], fun _ => [], fun j => j ≤ ks.length ∧ r = (ks.drop j).all (kindB n), fun j => ks.length - j⟩ := ⟨_, rfl⟩
  ((try cbv) <;> (repeat ((with_reducible refine EW.of ?_); cbv)))
  refine TW.loopM A (T0_ok hP) S _ rfl 0 ?_ ?_ ?_
  · rw [hS]; exact ⟨Nat.zero_le _, hr⟩
  · rw [hS]
    cbv
    (repeat (first | exact trivial | refine And.intro (H.pur _) ?_ | refine And.intro (Emb.Pur _ _) ?_ | refine And.intro rfl ?_ | refine And.intro (Pur.mk rfl) ?_))
  intro j hj l1 L1 e1 e2; rw [hS] at hj e1 e2; dsimp only at hj e1 e2; obtain ⟨hj, hinv⟩ := hj; subst e1 e2
  cbv
  ((try cbv) <;> (repeat ((with_reducible refine EW.of ?_); cbv)))
  refine bsplit (fun h => ?_) (fun h => ?_)
  · have h : j < ks.length := lt_nt h rfl hlk
    obtain ⟨x, hx⟩ : ∃ x, ks[j]? = some x := ⟨_, List.getElem?_eq_getElem h⟩
    rw [all_drop hx] at hinv
    have hgx := G.getk hx
    have hxs := hg.slots x (List.mem_of_getElem? hx)
    obtain ⟨name, tx, ss⟩ := x
    dsimp only at hgx hxs
    have hsl := G.slot.len ss
    have hsk : A.len (G.slot.l ss) = (ss.length : Int) := by rw [A.ok_len, hsl]
    have hnm := A.ok_slen name
    ((try cbv) <;> (repeat ((with_reducible refine EW.of ?_); cbv)))
    (refine ⟨_, _, rfl, hgx, ?_⟩; cbv; ((try cbv) <;> (repeat ((with_reducible refine EW.of ?_); cbv))))
    refine bsplit (fun h => ?_) (fun h => ?_)
    · have h : name.size < 1 := (by first | exact lt_t h (by first | rfl | assumption) (by first | rfl | assumption) | exact le_t h (by first | rfl | assumption) (by first | rfl | assumption) | exact eq_t h (by first | rfl | assumption) (by first | rfl | assumption) | exact ne_t h (by first | rfl | assumption) (by first | rfl | assumption) | exact lt_nt h (by first | rfl | assumption) (by first | rfl | assumption) | exact le_nt h (by first | rfl | assumption) (by first | rfl | assumption) | exact ne_nt h (by first | rfl | assumption) (by first | rfl | assumption) | exact seq_t h | exact (sne_t h))
      replace hinv : r = false := by rw [Bool.eq_false_iff]; intro hc; rw [hinv] at hc; simp only [kindB, Bool.and_eq_true, decide_eq_true_eq] at hc; omega
      subst hinv
      replace he : e = 50 := he
      subst he
      cbv
      ((try cbv) <;> (repeat ((with_reducible refine EW.of ?_); cbv)))
    have h : ¬ (name.size < 1) := (by first | exact not_lt_f h (by first | rfl | assumption) (by first | rfl | assumption) | exact not_le_f h (by first | rfl | assumption) (by first | rfl | assumption) | exact eq_f h (by first | rfl | assumption) (by first | rfl | assumption) | exact not_ne_f h (by first | rfl | assumption) (by first | rfl | assumption) | exact not_lt_nf h (by first | rfl | assumption) (by first | rfl | assumption) | exact not_le_nf h (by first | rfl | assumption) (by first | rfl | assumption) | exact not_ne_nf h (by first | rfl | assumption) (by first | rfl | assumption))
    ((try cbv) <;> (repeat ((with_reducible refine EW.of ?_); cbv)))
    have g6 := h
    refine bsplit (fun h => ?_) (fun h => ?_)
    · have h : 40 < name.size := (by first | exact lt_t h (by first | rfl | assumption) (by first | rfl | assumption) | exact le_t h (by first | rfl | assumption) (by first | rfl | assumption) | exact eq_t h (by first | rfl | assumption) (by first | rfl | assumption) | exact ne_t h (by first | rfl | assumption) (by first | rfl | assumption) | exact lt_nt h (by first | rfl | assumption) (by first | rfl | assumption) | exact le_nt h (by first | rfl | assumption) (by first | rfl | assumption) | exact ne_nt h (by first | rfl | assumption) (by first | rfl | assumption) | exact seq_t h | exact (sne_t h))
      replace hinv : r = false := by rw [Bool.eq_false_iff]; intro hc; rw [hinv] at hc; simp only [kindB, Bool.and_eq_true, decide_eq_true_eq] at hc; omega
      subst hinv
      replace he : e = 50 := he
      subst he
      cbv
      ((try cbv) <;> (repeat ((with_reducible refine EW.of ?_); cbv)))
    have h : ¬ (40 < name.size) := (by first | exact not_lt_f h (by first | rfl | assumption) (by first | rfl | assumption) | exact not_le_f h (by first | rfl | assumption) (by first | rfl | assumption) | exact eq_f h (by first | rfl | assumption) (by first | rfl | assumption) | exact not_ne_f h (by first | rfl | assumption) (by first | rfl | assumption) | exact not_lt_nf h (by first | rfl | assumption) (by first | rfl | assumption) | exact not_le_nf h (by first | rfl | assumption) (by first | rfl | assumption) | exact not_ne_nf h (by first | rfl | assumption) (by first | rfl | assumption))
    ((try cbv) <;> (repeat ((with_reducible refine EW.of ?_); cbv)))
    have g7 := h
    refine bsplit (fun h => ?_) (fun h => ?_)
    · have h : 8 < ss.length := (by first | exact lt_t h (by first | rfl | assumption) (by first | rfl | assumption) | exact le_t h (by first | rfl | assumption) (by first | rfl | assumption) | exact eq_t h (by first | rfl | assumption) (by first | rfl | assumption) | exact ne_t h (by first | rfl | assumption) (by first | rfl | assumption) | exact lt_nt h (by first | rfl | assumption) (by first | rfl | assumption) | exact le_nt h (by first | rfl | assumption) (by first | rfl | assumption) | exact ne_nt h (by first | rfl | assumption) (by first | rfl | assumption) | exact seq_t h | exact (sne_t h))
      replace hinv : r = false := by rw [Bool.eq_false_iff]; intro hc; rw [hinv] at hc; simp only [kindB, Bool.and_eq_true, decide_eq_true_eq] at hc; omega
      subst hinv
      replace he : e = 50 := he
      subst he
      cbv
      ((try cbv) <;> (repeat ((with_reducible refine EW.of ?_); cbv)))
    have h : ¬ (8 < ss.length) := (by first | exact not_lt_f h (by first | rfl | assumption) (by first | rfl | assumption) | exact not_le_f h (by first | rfl | assumption) (by first | rfl | assumption) | exact eq_f h (by first | rfl | assumption) (by first | rfl | assumption) | exact not_ne_f h (by first | rfl | assumption) (by first | rfl | assumption) | exact not_lt_nf h (by first | rfl | assumption) (by first | rfl | assumption) | exact not_le_nf h (by first | rfl | assumption) (by first | rfl | assumption) | exact not_ne_nf h (by first | rfl | assumption) (by first | rfl | assumption))
    ((try cbv) <;> (repeat ((with_reducible refine EW.of ?_); cbv)))
    replace hinv : r = ((ss.drop 0).all (slotB n) && (ks.drop (j + 1)).all (kindB n)) := by
      have e1 : 1 ≤ name.size := by omega
      have e2 : name.size ≤ 40 := by omega
      have e3 : ss.length ≤ 8 := by omega
      rw [hinv, kindB]
      simp only [e1, e2, e3, decide_true, Bool.true_and, List.drop_zero]
    obtain ⟨S2, hS2⟩ : ∃ S : LI Nat, S = ⟨fun i => [(70, .int .i64 i), (69, .int .i64 (A.len (G.slot.l ss))), (5, .imm [.str name, .bool tx, .sl 3 (G.slot.l ss)]), (36, .int .i64 j), (35, .int .i64 (A.len (G.kind.l ks))), (3, .int .i64 (A.len (G.kind.l ks))), (2, .int .i64 0), (1, .imm [.sl 3 (G.kind.l ks), .int .i64 root])], fun _ => [], fun i => i ≤ ss.length ∧ r = ((ss.drop i).all (slotB n) && (ks.drop (j + 1)).all (kindB n)), fun i => ss.length - i⟩ := ⟨_, rfl⟩
    refine TW.loopM A (T0_ok hP) S2 _ rfl 0 ?_ ?_ ?_
    · rw [hS2]; exact ⟨Nat.zero_le _, hinv⟩
    · rw [hS2]
      cbv
      (repeat (first | exact trivial | refine And.intro (H.pur _) ?_ | refine And.intro (Emb.Pur _ _) ?_ | refine And.intro rfl ?_ | refine And.intro (Pur.mk rfl) ?_))
    intro i hj l1 L1 e1 e2; rw [hS2] at hj e1 e2; dsimp only at hj e1 e2; obtain ⟨hi, hinv⟩ := hj; subst e1 e2
    cbv
    ((try cbv) <;> (repeat ((with_reducible refine EW.of ?_); cbv)))
    refine bsplit (fun h3 => ?_) (fun h3 => ?_)
    · have h3 : i < ss.length := lt_nt h3 rfl hsk
      obtain ⟨y, hy⟩ : ∃ y, ss[i]? = some y := ⟨_, List.getElem?_eq_getElem h3⟩
      rw [all_drop hy] at hinv
      have hgy := G.gets E hy
      have k41 := slot41 A E G hP y (hxs.2 y (List.mem_of_getElem? hy)) n
      obtain ⟨b, hb⟩ : ∃ b, b = slotB n y := ⟨_, rfl⟩
      rw [← hb] at k41 hinv
      rw [← hnk] at k41
      obtain ⟨yk, yl, ym⟩ := y
      dsimp only at hgy k41
      ((try cbv) <;> (repeat ((with_reducible refine EW.of ?_); cbv)))
      (refine ⟨_, _, rfl, hgy, ?_⟩; cbv; ((try cbv) <;> (repeat ((with_reducible refine EW.of ?_); cbv))))
      (refine ⟨Ent.of (hP ▸ Try.func41) rfl, ?_⟩; refine TC.pureE k41 ?_; cbv; (repeat (first | exact trivial | refine And.intro (Emb.Pur _ _) ?_ | refine And.intro rfl ?_ | refine And.intro (Pur.mk rfl) ?_ | refine And.intro (Pur.mk (by assumption)) ?_)); ((try cbv) <;> (repeat ((with_reducible refine EW.of ?_); cbv))))
      cases b with
      | true =>
        replace hinv : r = ((ss.drop (i + 1)).all (slotB n) && (ks.drop (j + 1)).all (kindB n)) := hinv
        ((try cbv) <;> (repeat ((with_reducible refine EW.of ?_); cbv)))
        refine LM.of (i + 1) rfl ?_ ?_ ?_
        · rw [hS2]; exact ⟨by show i + 1 ≤ _; omega, hinv⟩
        · rw [hS2]; show ss.length - (i + 1) < ss.length - i; omega
        · rw [hS2]; (cbv; (repeat (first | exact trivial | refine And.intro (Emb.Pur _ _) ?_ | refine And.intro rfl ?_ | refine And.intro (Pur.mk rfl) ?_ | refine And.intro (Pur.mk (by assumption)) ?_)); refine And.intro (inc_eq A (by omega)) ?_; (repeat (first | exact trivial | refine And.intro (Emb.Pur _ _) ?_ | refine And.intro rfl ?_ | refine And.intro (Pur.mk rfl) ?_ | refine And.intro (Pur.mk (by assumption)) ?_)))
      | false =>
        replace hinv : r = false := hinv
        subst hinv
        replace he : e = 50 := he
        subst he
        ((try cbv) <;> (repeat ((with_reducible refine EW.of ?_); cbv)))
    · have h3 : ss.length ≤ i := lt_nf h3 rfl hsk
      rw [List.drop_eq_nil_of_le h3] at hinv
      replace hinv : r = (ks.drop (j + 1)).all (kindB n) := by rw [hinv]; rfl
      ((try cbv) <;> (repeat ((with_reducible refine EW.of ?_); cbv)))
      refine LM.of (j + 1) rfl ?_ ?_ ?_
      · rw [hS]; exact ⟨by show j + 1 ≤ _; omega, hinv⟩
      · rw [hS]; show ks.length - (j + 1) < ks.length - j; omega
      · rw [hS]; (cbv; (repeat (first | exact trivial | refine And.intro (Emb.Pur _ _) ?_ | refine And.intro rfl ?_ | refine And.intro (Pur.mk rfl) ?_ | refine And.intro (Pur.mk (by assumption)) ?_)); refine And.intro (inc_eq A (by omega)) ?_; (repeat (first | exact trivial | refine And.intro (Emb.Pur _ _) ?_ | refine And.intro rfl ?_ | refine And.intro (Pur.mk rfl) ?_ | refine And.intro (Pur.mk (by assumption)) ?_)))
  · have h : ks.length ≤ j := lt_nf h rfl hlk
    rw [List.drop_eq_nil_of_le h] at hinv
    replace hinv : r = true := hinv
    subst hinv
    replace he : e = 0 := he
    subst he
    ((try cbv) <;> (repeat ((with_reducible refine EW.of ?_); cbv)))
end Go.Proofs.Ytlngpfocngfokaa
