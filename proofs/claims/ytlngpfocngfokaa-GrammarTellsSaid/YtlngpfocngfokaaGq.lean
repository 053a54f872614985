import Derived.Test.YtlngpfocngfokaaGp
/-! Grammars compared, by the reference. -/
namespace Go.Proofs.Ytlngpfocngfokaa
open Go.Proofs.Ytlngpfocngfokaa.Tw
theorem kindEq_mk (n n' : ByteArray) (t t' : Bool) (s s' : List Slo) : kindEq ⟨n, t, s⟩ ⟨n', t', s'⟩ = (strEq n n' && ((t == t') && (decide (s.length = s'.length) && all2 slotEq s s'))) := rfl
theorem slotEq_mk (k k' : List Int) (l l' m m' : Int) : slotEq ⟨k, l, m⟩ ⟨k', l', m'⟩ = (decide (l = l') && (decide (m = m') && (decide (k.length = k'.length) && all2 eqI k k'))) := rfl
theorem sne_t {A : Ar} {a b : ByteArray} (h : A.bnot (A.seq a b) = true) : strEq a b = false := seq_f (by rw [A.ok_bnot] at h; simpa using h)
theorem sne_f {A : Ar} {a b : ByteArray} (h : A.bnot (A.seq a b) = false) : strEq a b = true := seq_t (by rw [A.ok_bnot] at h; simpa using h)
theorem bne_t {A : Ar} {a b : Bool} (h : A.bnot (A.beq a b) = true) : (a == b) = false := by rw [A.ok_bnot, A.ok_beq] at h; simpa using h
theorem bne_f {A : Ar} {a b : Bool} (h : A.bnot (A.beq a b) = false) : (a == b) = true := by rw [A.ok_bnot, A.ok_beq] at h; simpa using h
set_option maxHeartbeats 4000000 in
theorem Same23 (A : Ar) (E : Em) (G : EmG) {P : Program} (hP : P = Try.prog) (g h : Gra) (hg : g.ok) : TPure P 23 [G.gv g, G.gv h] (.bool (sameB g h)) := by
  obtain ⟨r, hr⟩ : ∃ r, r = sameB g h := ⟨_, rfl⟩
  rw [← hr]
  unfold sameB eqL at hr
  have hk9 := hg.kinds
  have hs9 := hg.slots
  obtain ⟨ks, ro⟩ := g
  obtain ⟨ls, rp⟩ := h
  have hkk : A.len (G.kind.l ks) = (ks.length : Int) := by rw [A.ok_len, G.kind.len]
  have hkl : A.len (G.kind.l ls) = (ls.length : Int) := by rw [A.ok_len, G.kind.len]
  unfold EmG.gv
  dsimp only at hr hk9 hs9 ⊢
  refine TPure.ofE A T0 (T0_ok hP) (hP ▸ Try.func23) rfl _ rfl (by simp) ?_
  cbv
  refine EW.vs [(4, .bool false), (2, .imm [.sl 3 (G.kind.l ks), .int .i64 ro]), (3, .imm [.sl 3 (G.kind.l ls), .int .i64 rp])] [] 120 rfl ?_
  cbv
  refine And.intro (Pur.mk (by (repeat (first | exact rfl | exact Emb.purL _ _ | assumption | apply pur_cons | apply pur_sl | apply pur_slt | apply pur_agg | apply pur_tup)))) (And.intro (Pur.mk (by (repeat (first | exact rfl | exact Emb.purL _ _ | assumption | apply pur_cons | apply pur_sl | apply pur_slt | apply pur_agg | apply pur_tup)))) ?_)
  ((try cbv) <;> (repeat ((with_reducible refine EW.of ?_); cbv)))
  refine bsplit (fun h => ?_) (fun h => ?_)
  · have h : ro ≠ rp := (by first | exact lt_t h (by first | rfl | assumption) (by first | rfl | assumption) | exact le_t h (by first | rfl | assumption) (by first | rfl | assumption) | exact eq_t h (by first | rfl | assumption) (by first | rfl | assumption) | exact ne_t h (by first | rfl | assumption) (by first | rfl | assumption) | exact lt_nt h (by first | rfl | assumption) (by first | rfl | assumption) | exact le_nt h (by first | rfl | assumption) (by first | rfl | assumption) | exact ne_nt h (by first | rfl | assumption) (by first | rfl | assumption) | exact seq_t h | exact (sne_t h))
    rw [decide_eq_false (by exact h), Bool.false_and] at hr
    subst hr
    cbv
    ((try cbv) <;> (repeat ((with_reducible refine EW.of ?_); cbv)))
  have h : ¬ (ro ≠ rp) := (by first | exact not_lt_f h (by first | rfl | assumption) (by first | rfl | assumption) | exact not_le_f h (by first | rfl | assumption) (by first | rfl | assumption) | exact eq_f h (by first | rfl | assumption) (by first | rfl | assumption) | exact not_ne_f h (by first | rfl | assumption) (by first | rfl | assumption) | exact not_lt_nf h (by first | rfl | assumption) (by first | rfl | assumption) | exact not_le_nf h (by first | rfl | assumption) (by first | rfl | assumption) | exact not_ne_nf h (by first | rfl | assumption) (by first | rfl | assumption))
  ((try cbv) <;> (repeat ((with_reducible refine EW.of ?_); cbv)))
  rw [decide_eq_true (Decidable.not_not.1 h), Bool.true_and] at hr
  refine bsplit (fun h => ?_) (fun h => ?_)
  · have h : ks.length ≠ ls.length := (by first | exact lt_t h (by first | rfl | assumption) (by first | rfl | assumption) | exact le_t h (by first | rfl | assumption) (by first | rfl | assumption) | exact eq_t h (by first | rfl | assumption) (by first | rfl | assumption) | exact ne_t h (by first | rfl | assumption) (by first | rfl | assumption) | exact lt_nt h (by first | rfl | assumption) (by first | rfl | assumption) | exact le_nt h (by first | rfl | assumption) (by first | rfl | assumption) | exact ne_nt h (by first | rfl | assumption) (by first | rfl | assumption) | exact seq_t h | exact (sne_t h))
    rw [decide_eq_false (by exact h), Bool.false_and] at hr
    subst hr
    cbv
    ((try cbv) <;> (repeat ((with_reducible refine EW.of ?_); cbv)))
  have h : ¬ (ks.length ≠ ls.length) := (by first | exact not_lt_f h (by first | rfl | assumption) (by first | rfl | assumption) | exact not_le_f h (by first | rfl | assumption) (by first | rfl | assumption) | exact eq_f h (by first | rfl | assumption) (by first | rfl | assumption) | exact not_ne_f h (by first | rfl | assumption) (by first | rfl | assumption) | exact not_lt_nf h (by first | rfl | assumption) (by first | rfl | assumption) | exact not_le_nf h (by first | rfl | assumption) (by first | rfl | assumption) | exact not_ne_nf h (by first | rfl | assumption) (by first | rfl | assumption))
  ((try cbv) <;> (repeat ((with_reducible refine EW.of ?_); cbv)))
  have hl1 : ks.length = ls.length := Decidable.not_not.1 h
  rw [decide_eq_true hl1, Bool.true_and] at hr
  replace hr : r = all2 kindEq (ks.drop 0) (ls.drop 0) := hr
  have pk : Tw.Pur [.sl 3 (G.kind.l ks), .int .i64 ro] := Pur.mk (by (repeat (first | exact rfl | exact Emb.purL _ _ | assumption | apply pur_cons | apply pur_sl | apply pur_slt | apply pur_agg | apply pur_tup)))
  have pl : Tw.Pur [.sl 3 (G.kind.l ls), .int .i64 rp] := Pur.mk (by (repeat (first | exact rfl | exact Emb.purL _ _ | assumption | apply pur_cons | apply pur_sl | apply pur_slt | apply pur_agg | apply pur_tup)))
  obtain ⟨S, hS⟩ : ∃ S : LI Nat, S = ⟨fun j => [(5, .int .i64 j), (4, .bool false), (2, .imm [.sl 3 (G.kind.l ks), .int .i64 ro]), (3, .imm [.sl 3 (G.kind.l ls), .int .i64 rp])], fun _ => [], fun j => j ≤ ks.length ∧ r = all2 kindEq (ks.drop j) (ls.drop j), fun j => ks.length - j⟩ := ⟨_, rfl⟩
  refine TW.loopM A (T0_ok hP) S _ rfl 0 ?_ ?_ ?_
  · rw [hS]; exact ⟨Nat.zero_le _, hr⟩
  · rw [hS]
    cbv
    (repeat (first | exact trivial | refine And.intro (Emb.Pur _ _) ?_ | refine And.intro pk ?_ | refine And.intro pl ?_ | refine And.intro (inc_eq A (by omega)) ?_ | refine And.intro rfl ?_))
  clear hr
  rintro j hj l1 L1 e1 e2
  rw [hS] at hj e1 e2
  dsimp only at hj e1 e2
  obtain ⟨hj, hr⟩ := hj
  subst e1 e2
  cbv
  ((try cbv) <;> (repeat ((with_reducible refine EW.of ?_); cbv)))
  refine bsplit (fun h => ?_) (fun h => ?_)
  · have h : j < ks.length := lt_nt h rfl hkk
    obtain ⟨x, hx⟩ : ∃ x, ks[j]? = some x := ⟨_, List.getElem?_eq_getElem h⟩
    obtain ⟨y, hy⟩ : ∃ y, ls[j]? = some y := ⟨_, List.getElem?_eq_getElem (by omega)⟩
    have hx9 := hs9 x (List.mem_of_getElem? hx)
    rw [all2_drop hx hy] at hr
    have hgx := G.getk hx
    have hgy := G.getk hy
    obtain ⟨xn, xt, xs⟩ := x
    obtain ⟨yn, yt, ys⟩ := y
    have hxk : A.len (G.slot.l xs) = (xs.length : Int) := by rw [A.ok_len, G.slot.len]
    have hyk : A.len (G.slot.l ys) = (ys.length : Int) := by rw [A.ok_len, G.slot.len]
    dsimp only at hgx hgy hx9
    rw [kindEq_mk, Bool.and_assoc, Bool.and_assoc, Bool.and_assoc] at hr
    ((try cbv) <;> (repeat ((with_reducible refine EW.of ?_); cbv)))
    (refine ⟨_, _, rfl, hgx, ?_⟩; cbv; ((try cbv) <;> (repeat ((with_reducible refine EW.of ?_); cbv))))
    (refine ⟨_, _, rfl, hgy, ?_⟩; cbv; ((try cbv) <;> (repeat ((with_reducible refine EW.of ?_); cbv))))
    refine bsplit (fun h => ?_) (fun h => ?_)
    · have h := sne_t h
      rw [h, Bool.false_and] at hr
      subst hr
      cbv
      ((try cbv) <;> (repeat ((with_reducible refine EW.of ?_); cbv)))
    rw [sne_f h, Bool.true_and] at hr
    ((try cbv) <;> (repeat ((with_reducible refine EW.of ?_); cbv)))
    refine bsplit (fun h => ?_) (fun h => ?_)
    · have h := bne_t h
      rw [h, Bool.false_and] at hr
      subst hr
      cbv
      ((try cbv) <;> (repeat ((with_reducible refine EW.of ?_); cbv)))
    rw [bne_f h, Bool.true_and] at hr
    ((try cbv) <;> (repeat ((with_reducible refine EW.of ?_); cbv)))
    refine bsplit (fun h => ?_) (fun h => ?_)
    · have h : xs.length ≠ ys.length := (by first | exact lt_t h (by first | rfl | assumption) (by first | rfl | assumption) | exact le_t h (by first | rfl | assumption) (by first | rfl | assumption) | exact eq_t h (by first | rfl | assumption) (by first | rfl | assumption) | exact ne_t h (by first | rfl | assumption) (by first | rfl | assumption) | exact lt_nt h (by first | rfl | assumption) (by first | rfl | assumption) | exact le_nt h (by first | rfl | assumption) (by first | rfl | assumption) | exact ne_nt h (by first | rfl | assumption) (by first | rfl | assumption) | exact seq_t h | exact (sne_t h))
      rw [decide_eq_false (by exact h), Bool.false_and] at hr
      subst hr
      cbv
      ((try cbv) <;> (repeat ((with_reducible refine EW.of ?_); cbv)))
    have h : ¬ (xs.length ≠ ys.length) := (by first | exact not_lt_f h (by first | rfl | assumption) (by first | rfl | assumption) | exact not_le_f h (by first | rfl | assumption) (by first | rfl | assumption) | exact eq_f h (by first | rfl | assumption) (by first | rfl | assumption) | exact not_ne_f h (by first | rfl | assumption) (by first | rfl | assumption) | exact not_lt_nf h (by first | rfl | assumption) (by first | rfl | assumption) | exact not_le_nf h (by first | rfl | assumption) (by first | rfl | assumption) | exact not_ne_nf h (by first | rfl | assumption) (by first | rfl | assumption))
    ((try cbv) <;> (repeat ((with_reducible refine EW.of ?_); cbv)))
    have hl2 : xs.length = ys.length := Decidable.not_not.1 h
    rw [decide_eq_true hl2, Bool.true_and] at hr
    obtain ⟨q, hq⟩ : ∃ q, q = all2 kindEq (ks.drop (j + 1)) (ls.drop (j + 1)) := ⟨_, rfl⟩
    rw [← hq] at hr
    replace hr : r = (all2 slotEq (xs.drop 0) (ys.drop 0) && q) := hr
    have px : Tw.Pur [.str xn, .bool xt, .sl 3 (G.slot.l xs)] := Pur.mk (by (repeat (first | exact rfl | exact Emb.purL _ _ | assumption | apply pur_cons | apply pur_sl | apply pur_slt | apply pur_agg | apply pur_tup)))
    have py : Tw.Pur [.str yn, .bool yt, .sl 3 (G.slot.l ys)] := Pur.mk (by (repeat (first | exact rfl | exact Emb.purL _ _ | assumption | apply pur_cons | apply pur_sl | apply pur_slt | apply pur_agg | apply pur_tup)))
    refine TW.vsE [(8, .int .i64 0), (6, .imm [.str xn, .bool xt, .sl 3 (G.slot.l xs)]), (7, .imm [.str yn, .bool yt, .sl 3 (G.slot.l ys)]), (5, .int .i64 j), (4, .bool false), (2, .imm [.sl 3 (G.kind.l ks), .int .i64 ro]), (3, .imm [.sl 3 (G.kind.l ls), .int .i64 rp])] [] 120 rfl ?_
    cbv
    (repeat (first | exact trivial | refine And.intro (Emb.Pur _ _) ?_ | refine And.intro pk ?_ | refine And.intro pl ?_ | refine And.intro px ?_ | refine And.intro py ?_ | refine And.intro (inc_eq A (by omega)) ?_ | refine And.intro rfl ?_))
    obtain ⟨S1, hS1⟩ : ∃ S : LI Nat, S = ⟨fun i => [(8, .int .i64 i), (6, .imm [.str xn, .bool xt, .sl 3 (G.slot.l xs)]), (7, .imm [.str yn, .bool yt, .sl 3 (G.slot.l ys)]), (5, .int .i64 j), (4, .bool false), (2, .imm [.sl 3 (G.kind.l ks), .int .i64 ro]), (3, .imm [.sl 3 (G.kind.l ls), .int .i64 rp])], fun _ => [], fun i => i ≤ xs.length ∧ r = (all2 slotEq (xs.drop i) (ys.drop i) && q), fun i => xs.length - i⟩ := ⟨_, rfl⟩
    refine TW.loopM A (T0_ok hP) S1 _ rfl 0 ?_ ?_ ?_
    · rw [hS1]; exact ⟨Nat.zero_le _, hr⟩
    · rw [hS1]
      cbv
      (repeat (first | exact trivial | refine And.intro (Emb.Pur _ _) ?_ | refine And.intro pk ?_ | refine And.intro pl ?_ | refine And.intro px ?_ | refine And.intro py ?_ | refine And.intro (inc_eq A (by omega)) ?_ | refine And.intro rfl ?_))
    clear hr
    rintro i hi l1 L1 e1 e2
    rw [hS1] at hi e1 e2
    dsimp only at hi e1 e2
    obtain ⟨hi, hr⟩ := hi
    subst e1 e2
    cbv
    ((try cbv) <;> (repeat ((with_reducible refine EW.of ?_); cbv)))
    refine bsplit (fun h => ?_) (fun h => ?_)
    · have h : i < xs.length := lt_nt h rfl hxk
      obtain ⟨u, hu⟩ : ∃ u, xs[i]? = some u := ⟨_, List.getElem?_eq_getElem h⟩
      obtain ⟨v, hv⟩ : ∃ v, ys[i]? = some v := ⟨_, List.getElem?_eq_getElem (by omega)⟩
      have hu9 := hx9.2 u (List.mem_of_getElem? hu)
      rw [all2_drop hu hv] at hr
      have hgu := G.gets E hu
      have hgv := G.gets E hv
      obtain ⟨uk, ul, um⟩ := u
      obtain ⟨vk, vl, vm⟩ := v
      have huk : A.len (E.int.l uk) = (uk.length : Int) := by rw [A.ok_len, E.int.len]
      have hvk : A.len (E.int.l vk) = (vk.length : Int) := by rw [A.ok_len, E.int.len]
      dsimp only at hgu hgv hu9
      rw [slotEq_mk, Bool.and_assoc, Bool.and_assoc, Bool.and_assoc, Bool.and_assoc] at hr
      ((try cbv) <;> (repeat ((with_reducible refine EW.of ?_); cbv)))
      (refine ⟨_, _, rfl, hgu, ?_⟩; cbv; ((try cbv) <;> (repeat ((with_reducible refine EW.of ?_); cbv))))
      (refine ⟨_, _, rfl, hgv, ?_⟩; cbv; ((try cbv) <;> (repeat ((with_reducible refine EW.of ?_); cbv))))
      refine bsplit (fun h => ?_) (fun h => ?_)
      · have h : ul ≠ vl := (by first | exact lt_t h (by first | rfl | assumption) (by first | rfl | assumption) | exact le_t h (by first | rfl | assumption) (by first | rfl | assumption) | exact eq_t h (by first | rfl | assumption) (by first | rfl | assumption) | exact ne_t h (by first | rfl | assumption) (by first | rfl | assumption) | exact lt_nt h (by first | rfl | assumption) (by first | rfl | assumption) | exact le_nt h (by first | rfl | assumption) (by first | rfl | assumption) | exact ne_nt h (by first | rfl | assumption) (by first | rfl | assumption) | exact seq_t h | exact (sne_t h))
        rw [decide_eq_false (by exact h), Bool.false_and] at hr
        subst hr
        cbv
        ((try cbv) <;> (repeat ((with_reducible refine EW.of ?_); cbv)))
      have h : ¬ (ul ≠ vl) := (by first | exact not_lt_f h (by first | rfl | assumption) (by first | rfl | assumption) | exact not_le_f h (by first | rfl | assumption) (by first | rfl | assumption) | exact eq_f h (by first | rfl | assumption) (by first | rfl | assumption) | exact not_ne_f h (by first | rfl | assumption) (by first | rfl | assumption) | exact not_lt_nf h (by first | rfl | assumption) (by first | rfl | assumption) | exact not_le_nf h (by first | rfl | assumption) (by first | rfl | assumption) | exact not_ne_nf h (by first | rfl | assumption) (by first | rfl | assumption))
      ((try cbv) <;> (repeat ((with_reducible refine EW.of ?_); cbv)))
      rw [decide_eq_true (Decidable.not_not.1 h), Bool.true_and] at hr
      refine bsplit (fun h => ?_) (fun h => ?_)
      · have h : um ≠ vm := (by first | exact lt_t h (by first | rfl | assumption) (by first | rfl | assumption) | exact le_t h (by first | rfl | assumption) (by first | rfl | assumption) | exact eq_t h (by first | rfl | assumption) (by first | rfl | assumption) | exact ne_t h (by first | rfl | assumption) (by first | rfl | assumption) | exact lt_nt h (by first | rfl | assumption) (by first | rfl | assumption) | exact le_nt h (by first | rfl | assumption) (by first | rfl | assumption) | exact ne_nt h (by first | rfl | assumption) (by first | rfl | assumption) | exact seq_t h | exact (sne_t h))
        rw [decide_eq_false (by exact h), Bool.false_and] at hr
        subst hr
        cbv
        ((try cbv) <;> (repeat ((with_reducible refine EW.of ?_); cbv)))
      have h : ¬ (um ≠ vm) := (by first | exact not_lt_f h (by first | rfl | assumption) (by first | rfl | assumption) | exact not_le_f h (by first | rfl | assumption) (by first | rfl | assumption) | exact eq_f h (by first | rfl | assumption) (by first | rfl | assumption) | exact not_ne_f h (by first | rfl | assumption) (by first | rfl | assumption) | exact not_lt_nf h (by first | rfl | assumption) (by first | rfl | assumption) | exact not_le_nf h (by first | rfl | assumption) (by first | rfl | assumption) | exact not_ne_nf h (by first | rfl | assumption) (by first | rfl | assumption))
      ((try cbv) <;> (repeat ((with_reducible refine EW.of ?_); cbv)))
      rw [decide_eq_true (Decidable.not_not.1 h), Bool.true_and] at hr
      refine bsplit (fun h => ?_) (fun h => ?_)
      · have h : uk.length ≠ vk.length := (by first | exact lt_t h (by first | rfl | assumption) (by first | rfl | assumption) | exact le_t h (by first | rfl | assumption) (by first | rfl | assumption) | exact eq_t h (by first | rfl | assumption) (by first | rfl | assumption) | exact ne_t h (by first | rfl | assumption) (by first | rfl | assumption) | exact lt_nt h (by first | rfl | assumption) (by first | rfl | assumption) | exact le_nt h (by first | rfl | assumption) (by first | rfl | assumption) | exact ne_nt h (by first | rfl | assumption) (by first | rfl | assumption) | exact seq_t h | exact (sne_t h))
        rw [decide_eq_false (by exact h), Bool.false_and] at hr
        subst hr
        cbv
        ((try cbv) <;> (repeat ((with_reducible refine EW.of ?_); cbv)))
      have h : ¬ (uk.length ≠ vk.length) := (by first | exact not_lt_f h (by first | rfl | assumption) (by first | rfl | assumption) | exact not_le_f h (by first | rfl | assumption) (by first | rfl | assumption) | exact eq_f h (by first | rfl | assumption) (by first | rfl | assumption) | exact not_ne_f h (by first | rfl | assumption) (by first | rfl | assumption) | exact not_lt_nf h (by first | rfl | assumption) (by first | rfl | assumption) | exact not_le_nf h (by first | rfl | assumption) (by first | rfl | assumption) | exact not_ne_nf h (by first | rfl | assumption) (by first | rfl | assumption))
      ((try cbv) <;> (repeat ((with_reducible refine EW.of ?_); cbv)))
      have hl3 : uk.length = vk.length := Decidable.not_not.1 h
      rw [decide_eq_true hl3, Bool.true_and] at hr
      obtain ⟨q2, hq2⟩ : ∃ q2, q2 = (all2 slotEq (xs.drop (i + 1)) (ys.drop (i + 1)) && q) := ⟨_, rfl⟩
      rw [← hq2] at hr
      have pu : Tw.Pur [.sl 1 (E.int.l uk), .int .i64 ul, .int .i64 um] := Pur.mk (by (repeat (first | exact rfl | exact Emb.purL _ _ | assumption | apply pur_cons | apply pur_sl | apply pur_slt | apply pur_agg | apply pur_tup)))
      have pv : Tw.Pur [.sl 1 (E.int.l vk), .int .i64 vl, .int .i64 vm] := Pur.mk (by (repeat (first | exact rfl | exact Emb.purL _ _ | assumption | apply pur_cons | apply pur_sl | apply pur_slt | apply pur_agg | apply pur_tup)))
      replace hr : r = (all2 eqI (uk.drop 0) (vk.drop 0) && q2) := hr
      refine TW.vsE [(11, .int .i64 0), (8, .int .i64 i), (9, .imm [.sl 1 (E.int.l uk), .int .i64 ul, .int .i64 um]), (10, .imm [.sl 1 (E.int.l vk), .int .i64 vl, .int .i64 vm]), (6, .imm [.str xn, .bool xt, .sl 3 (G.slot.l xs)]), (7, .imm [.str yn, .bool yt, .sl 3 (G.slot.l ys)]), (5, .int .i64 j), (4, .bool false), (2, .imm [.sl 3 (G.kind.l ks), .int .i64 ro]), (3, .imm [.sl 3 (G.kind.l ls), .int .i64 rp])] [] 120 rfl ?_
      cbv
      (repeat (first | exact trivial | refine And.intro (Emb.Pur _ _) ?_ | refine And.intro pk ?_ | refine And.intro pl ?_ | refine And.intro px ?_ | refine And.intro py ?_ | refine And.intro pu ?_ | refine And.intro pv ?_ | refine And.intro (inc_eq A (by omega)) ?_ | refine And.intro rfl ?_))
      obtain ⟨S2, hS2⟩ : ∃ S : LI Nat, S = ⟨fun m => [(11, .int .i64 m), (8, .int .i64 i), (9, .imm [.sl 1 (E.int.l uk), .int .i64 ul, .int .i64 um]), (10, .imm [.sl 1 (E.int.l vk), .int .i64 vl, .int .i64 vm]), (6, .imm [.str xn, .bool xt, .sl 3 (G.slot.l xs)]), (7, .imm [.str yn, .bool yt, .sl 3 (G.slot.l ys)]), (5, .int .i64 j), (4, .bool false), (2, .imm [.sl 3 (G.kind.l ks), .int .i64 ro]), (3, .imm [.sl 3 (G.kind.l ls), .int .i64 rp])], fun _ => [], fun m => m ≤ uk.length ∧ r = (all2 eqI (uk.drop m) (vk.drop m) && q2), fun m => uk.length - m⟩ := ⟨_, rfl⟩
      refine TW.loopM A (T0_ok hP) S2 _ rfl 0 ?_ ?_ ?_
      · rw [hS2]; exact ⟨Nat.zero_le _, hr⟩
      · rw [hS2]
        cbv
        (repeat (first | exact trivial | refine And.intro (Emb.Pur _ _) ?_ | refine And.intro pk ?_ | refine And.intro pl ?_ | refine And.intro px ?_ | refine And.intro py ?_ | refine And.intro pu ?_ | refine And.intro pv ?_ | refine And.intro (inc_eq A (by omega)) ?_ | refine And.intro rfl ?_))
      clear hr
      rintro m hm l1 L1 e1 e2
      rw [hS2] at hm e1 e2
      dsimp only at hm e1 e2
      obtain ⟨hm, hr⟩ := hm
      subst e1 e2
      cbv
      ((try cbv) <;> (repeat ((with_reducible refine EW.of ?_); cbv)))
      refine bsplit (fun h => ?_) (fun h => ?_)
      · have h : m < uk.length := lt_nt h rfl huk
        obtain ⟨z, hz⟩ : ∃ z, uk[m]? = some z := ⟨_, List.getElem?_eq_getElem h⟩
        obtain ⟨w, hw⟩ : ∃ w, vk[m]? = some w := ⟨_, List.getElem?_eq_getElem (by omega)⟩
        rw [all2_drop hz hw, eqI, Bool.and_assoc] at hr
        ((try cbv) <;> (repeat ((with_reducible refine EW.of ?_); cbv)))
        (refine TW.draw (A := A) (T0_ok hP) (hP ▸ follows_mixed) (by kernel_rfl) rfl ?_; cbv)
        refine ⟨m, _, rfl, E.geti hz, ?_⟩
        cbv
        refine ⟨m, _, rfl, E.geti hw, ?_⟩
        cbv
        ((try cbv) <;> (repeat ((with_reducible refine EW.of ?_); cbv)))
        refine bsplit (fun h => ?_) (fun h => ?_)
        · have h : z ≠ w := (by first | exact lt_t h (by first | rfl | assumption) (by first | rfl | assumption) | exact le_t h (by first | rfl | assumption) (by first | rfl | assumption) | exact eq_t h (by first | rfl | assumption) (by first | rfl | assumption) | exact ne_t h (by first | rfl | assumption) (by first | rfl | assumption) | exact lt_nt h (by first | rfl | assumption) (by first | rfl | assumption) | exact le_nt h (by first | rfl | assumption) (by first | rfl | assumption) | exact ne_nt h (by first | rfl | assumption) (by first | rfl | assumption) | exact seq_t h | exact (sne_t h))
          rw [decide_eq_false (by exact h), Bool.false_and] at hr
          subst hr
          cbv
          ((try cbv) <;> (repeat ((with_reducible refine EW.of ?_); cbv)))
        have h : ¬ (z ≠ w) := (by first | exact not_lt_f h (by first | rfl | assumption) (by first | rfl | assumption) | exact not_le_f h (by first | rfl | assumption) (by first | rfl | assumption) | exact eq_f h (by first | rfl | assumption) (by first | rfl | assumption) | exact not_ne_f h (by first | rfl | assumption) (by first | rfl | assumption) | exact not_lt_nf h (by first | rfl | assumption) (by first | rfl | assumption) | exact not_le_nf h (by first | rfl | assumption) (by first | rfl | assumption) | exact not_ne_nf h (by first | rfl | assumption) (by first | rfl | assumption))
        ((try cbv) <;> (repeat ((with_reducible refine EW.of ?_); cbv)))
        rw [decide_eq_true (Decidable.not_not.1 h), Bool.true_and] at hr
        refine LM.of (m + 1) rfl ?_ ?_ ?_
        · rw [hS2]; exact ⟨by show m + 1 ≤ _; omega, hr⟩
        · rw [hS2]; show uk.length - (m + 1) < uk.length - m; omega
        · rw [hS2]
          cbv
          (repeat (first | exact trivial | refine And.intro (Emb.Pur _ _) ?_ | refine And.intro pk ?_ | refine And.intro pl ?_ | refine And.intro px ?_ | refine And.intro py ?_ | refine And.intro pu ?_ | refine And.intro pv ?_ | refine And.intro (inc_eq A (by omega)) ?_ | refine And.intro rfl ?_))
      · have h : uk.length ≤ m := lt_nf h rfl huk
        rw [List.drop_eq_nil_of_le h] at hr
        replace hr : r = q2 := hr
        rw [hq2] at hr
        ((try cbv) <;> (repeat ((with_reducible refine EW.of ?_); cbv)))
        refine LM.of (i + 1) rfl ?_ ?_ ?_
        · rw [hS1]; exact ⟨by show i + 1 ≤ _; omega, hr⟩
        · rw [hS1]; show xs.length - (i + 1) < xs.length - i; omega
        · rw [hS1]
          cbv
          (repeat (first | exact trivial | refine And.intro (Emb.Pur _ _) ?_ | refine And.intro pk ?_ | refine And.intro pl ?_ | refine And.intro px ?_ | refine And.intro py ?_ | refine And.intro pu ?_ | refine And.intro pv ?_ | refine And.intro (inc_eq A (by omega)) ?_ | refine And.intro rfl ?_))
    · have h : xs.length ≤ i := lt_nf h rfl hxk
      rw [List.drop_eq_nil_of_le h] at hr
      replace hr : r = q := hr
      rw [hq] at hr
      ((try cbv) <;> (repeat ((with_reducible refine EW.of ?_); cbv)))
      refine LM.of (j + 1) rfl ?_ ?_ ?_
      · rw [hS]; exact ⟨by show j + 1 ≤ _; omega, hr⟩
      · rw [hS]; show ks.length - (j + 1) < ks.length - j; omega
      · rw [hS]
        cbv
        (repeat (first | exact trivial | refine And.intro (Emb.Pur _ _) ?_ | refine And.intro pk ?_ | refine And.intro pl ?_ | refine And.intro px ?_ | refine And.intro py ?_ | refine And.intro (inc_eq A (by omega)) ?_ | refine And.intro rfl ?_))
  · have h : ks.length ≤ j := lt_nf h rfl hkk
    rw [List.drop_eq_nil_of_le h] at hr
    replace hr : r = true := hr
    subst hr
    ((try cbv) <;> (repeat ((with_reducible refine EW.of ?_); cbv)))
end Go.Proofs.Ytlngpfocngfokaa
