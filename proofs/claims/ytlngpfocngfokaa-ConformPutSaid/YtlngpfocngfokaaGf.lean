import Derived.Test.YtlngpfocngfokaaGe
/-! Kinds found, their texts, how many they need. -/
namespace Go.Proofs.Ytlngpfocngfokaa
open Go.Proofs.Ytlngpfocngfokaa.Tw
def kindO (g : Gra) (k : Int) : Option Knd := if checkB g = true ∧ 0 ≤ k ∧ k < g.kinds.length then g.kinds[k.toNat]? else none
def kindAV (G : EmG) : Option Knd → AV
  | none => .nil
  | some x => .imm [.str x.name, .bool x.text, .sl 3 (G.slot.l x.slots)]
theorem errC_ne {A : Ar} {b : Bool} : A.bnot (A.eq (errC b) 0) = !b := by
  rw [A.ok_bnot, A.ok_eq]
  cases b <;> rfl
set_option maxHeartbeats 1000000 in
theorem kind37 (A : Ar) (E : Em) (G : EmG) (H : EmN) {P : Program} (hP : P = Try.prog) (g : Gra) (hg : g.ok) (k : Int) : TPure P 37 [.imm [.sl 3 (G.kind.l g.kinds), .int .i64 g.root], .int .i64 k] (kindAV G (kindO g k)) := by
  have h14 := Check14 A E G H hP g hg
  obtain ⟨ks, root⟩ := g
  dsimp only
  have hll := G.kind.len ks
  have hlk : A.len (G.kind.l ks) = (ks.length : Int) := by rw [A.ok_len, hll]
  obtain ⟨r, hr⟩ : ∃ r, r = kindAV G (kindO ⟨ks, root⟩ k) := ⟨_, rfl⟩
  rw [← hr]
  unfold kindO at hr
  dsimp only at hr
  obtain ⟨n, hn⟩ : ∃ n : Int, n = ks.length := ⟨_, rfl⟩
  have hnk : A.len (G.kind.l ks) = n := by rw [hlk, hn]
  replace hr : r = kindAV G (if checkB ⟨ks, root⟩ = true ∧ 0 ≤ k ∧ k < n then ks[k.toNat]? else none) := by rw [hn]; exact hr
  generalize checkB ⟨ks, root⟩ = cb at h14 hr
  obtain ⟨e, he⟩ : ∃ e, e = errC cb := ⟨_, rfl⟩
  rw [← he] at h14
  have hne : A.bnot (A.eq e 0) = !cb := by rw [he]; exact errC_ne
  unfold EmG.gv at h14
  dsimp only at h14
  refine TPure.ofE A T0 (T0_ok hP) (hP ▸ Try.func37) rfl _ rfl (by simp) ?_
  cbv
  ((try cbv) <;> (repeat ((with_reducible refine EW.of ?_); cbv)))
  (refine ⟨Ent.of (hP ▸ Try.func14) rfl, ?_⟩; refine TC.pureE h14 ?_; cbv; (repeat (first | exact trivial | refine And.intro (Emb.Pur _ _) ?_ | refine And.intro rfl ?_ | refine And.intro (Pur.mk rfl) ?_ | refine And.intro (Pur.mk (by assumption)) ?_)); ((try cbv) <;> (repeat ((with_reducible refine EW.of ?_); cbv))))
  refine bsplit (fun h => ?_) (fun h => ?_)
  · have hcb : cb = false := by
      have h : A.bnot (A.eq e 0) = true := h
      rw [hne] at h; simpa using h
    replace hr : r = .nil := by rw [hr, if_neg (fun hc => by obtain ⟨c1, c2, c3⟩ := hc; first | omega | (rw [c1] at hcb; cases hcb))]; rfl
    subst hr
    cbv
    ((try cbv) <;> (repeat ((with_reducible refine EW.of ?_); cbv)))
  have hcb : cb = true := by
    have h : A.bnot (A.eq e 0) = false := h
    rw [hne] at h; simpa using h
  ((try cbv) <;> (repeat ((with_reducible refine EW.of ?_); cbv)))
  refine bsplit (fun h => ?_) (fun h => ?_)
  · have h : k < 0 := (by first | exact lt_t h (by first | rfl | assumption) (by first | rfl | assumption) | exact le_t h (by first | rfl | assumption) (by first | rfl | assumption) | exact eq_t h (by first | rfl | assumption) (by first | rfl | assumption) | exact ne_t h (by first | rfl | assumption) (by first | rfl | assumption) | exact lt_nt h (by first | rfl | assumption) (by first | rfl | assumption) | exact le_nt h (by first | rfl | assumption) (by first | rfl | assumption) | exact ne_nt h (by first | rfl | assumption) (by first | rfl | assumption) | exact seq_t h | exact (sne_t h))
    replace hr : r = .nil := by rw [hr, if_neg (fun hc => by obtain ⟨c1, c2, c3⟩ := hc; first | omega | (rw [c1] at hcb; cases hcb))]; rfl
    subst hr
    cbv
    ((try cbv) <;> (repeat ((with_reducible refine EW.of ?_); cbv)))
  have h : ¬ (k < 0) := (by first | exact not_lt_f h (by first | rfl | assumption) (by first | rfl | assumption) | exact not_le_f h (by first | rfl | assumption) (by first | rfl | assumption) | exact eq_f h (by first | rfl | assumption) (by first | rfl | assumption) | exact not_ne_f h (by first | rfl | assumption) (by first | rfl | assumption) | exact not_lt_nf h (by first | rfl | assumption) (by first | rfl | assumption) | exact not_le_nf h (by first | rfl | assumption) (by first | rfl | assumption) | exact not_ne_nf h (by first | rfl | assumption) (by first | rfl | assumption))
  ((try cbv) <;> (repeat ((with_reducible refine EW.of ?_); cbv)))
  have g1 := h
  refine bsplit (fun h => ?_) (fun h => ?_)
  · have h : n ≤ k := (by first | exact lt_t h (by first | rfl | assumption) (by first | rfl | assumption) | exact le_t h (by first | rfl | assumption) (by first | rfl | assumption) | exact eq_t h (by first | rfl | assumption) (by first | rfl | assumption) | exact ne_t h (by first | rfl | assumption) (by first | rfl | assumption) | exact lt_nt h (by first | rfl | assumption) (by first | rfl | assumption) | exact le_nt h (by first | rfl | assumption) (by first | rfl | assumption) | exact ne_nt h (by first | rfl | assumption) (by first | rfl | assumption) | exact seq_t h | exact (sne_t h))
    replace hr : r = .nil := by rw [hr, if_neg (fun hc => by obtain ⟨c1, c2, c3⟩ := hc; first | omega | (rw [c1] at hcb; cases hcb))]; rfl
    subst hr
    cbv
    ((try cbv) <;> (repeat ((with_reducible refine EW.of ?_); cbv)))
  have h : ¬ (n ≤ k) := (by first | exact not_lt_f h (by first | rfl | assumption) (by first | rfl | assumption) | exact not_le_f h (by first | rfl | assumption) (by first | rfl | assumption) | exact eq_f h (by first | rfl | assumption) (by first | rfl | assumption) | exact not_ne_f h (by first | rfl | assumption) (by first | rfl | assumption) | exact not_lt_nf h (by first | rfl | assumption) (by first | rfl | assumption) | exact not_le_nf h (by first | rfl | assumption) (by first | rfl | assumption) | exact not_ne_nf h (by first | rfl | assumption) (by first | rfl | assumption))
  ((try cbv) <;> (repeat ((with_reducible refine EW.of ?_); cbv)))
  have hk0 : k < n := by omega
  rw [if_pos ⟨hcb, by omega, hk0⟩] at hr
  obtain ⟨m, hm⟩ : ∃ m : Nat, k = m := ⟨k.toNat, by omega⟩
  subst hm
  rw [Int.toNat_natCast] at hr
  have hml : m < ks.length := by rw [hn] at hk0; exact Int.ofNat_lt.1 hk0
  obtain ⟨x, hx⟩ : ∃ x, ks[m]? = some x := ⟨_, List.getElem?_eq_getElem hml⟩
  rw [hx] at hr
  have hgx := G.getk hx
  ((try cbv) <;> (repeat ((with_reducible refine EW.of ?_); cbv)))
  (refine ⟨_, _, rfl, hgx, ?_⟩; cbv; ((try cbv) <;> (repeat ((with_reducible refine EW.of ?_); cbv))))
  subst hr
  obtain ⟨xn, xt, xss⟩ := x
  cbv
  (repeat (first | exact trivial | refine And.intro (Emb.Pur _ _) ?_ | refine And.intro rfl ?_ | refine And.intro (Pur.mk rfl) ?_ | refine And.intro (Pur.mk (by assumption)) ?_))
def textO (s : ByteArray) : Option Knd → Bool
  | none => false
  | some x => strEq s ⟨#[]⟩ || (x.text && decide (s.size ≤ 40))
def textB (g : Gra) (k : Int) (s : ByteArray) : Bool := textO s (kindO g k)
set_option maxHeartbeats 1000000 in
theorem Text19 (A : Ar) (E : Em) (G : EmG) (H : EmN) {P : Program} (hP : P = Try.prog) (g : Gra) (hg : g.ok) (k : Int) (s : ByteArray) : TPure P 19 [G.gv g, .int .i64 k, .str s] (.bool (textB g k s)) := by
  have h37 := kind37 A E G H hP g hg k
  unfold textB
  generalize kindO g k = o at h37
  obtain ⟨ks, root⟩ := g
  unfold EmG.gv
  dsimp only at h37 ⊢
  have hsz := A.ok_slen s
  cases o with
  | none =>
    replace h37 : TPure P _ _ .nil := h37
    dsimp only [textO]
    refine TPure.ofE A T0 (T0_ok hP) (hP ▸ Try.func19) rfl _ rfl (by simp) ?_
    cbv
    refine EW.vs [(6, .bool false), (3, .imm [.sl 3 (G.kind.l ks), .int .i64 root]), (1, .int .i64 k), (2, .str s)] [] 27 rfl ?_
    cbv
    refine And.intro (Pur.mk (by (repeat (first | exact rfl | exact Emb.purL _ _ | assumption | apply pur_cons | apply pur_sl | apply pur_slt | apply pur_agg | apply pur_tup)))) ?_
    ((try cbv) <;> (repeat ((with_reducible refine EW.of ?_); cbv)))
    (refine ⟨Ent.of (hP ▸ Try.func37) rfl, ?_⟩; refine TC.pureE h37 ?_; cbv; (repeat (first | exact trivial | refine And.intro (Emb.Pur _ _) ?_ | refine And.intro rfl ?_ | refine And.intro (Pur.mk rfl) ?_ | refine And.intro (Pur.mk (by assumption)) ?_)); ((try cbv) <;> (repeat ((with_reducible refine EW.of ?_); cbv))))
  | some x =>
    obtain ⟨xn, xt, xss⟩ := x
    replace h37 : TPure P _ _ (.imm [.str xn, .bool xt, .sl 3 (G.slot.l xss)]) := h37
    dsimp only [textO]
    obtain ⟨r, hr⟩ : ∃ r, r = (strEq s ⟨#[]⟩ || (xt && decide (s.size ≤ 40))) := ⟨_, rfl⟩
    rw [← hr]
    refine TPure.ofE A T0 (T0_ok hP) (hP ▸ Try.func19) rfl _ rfl (by simp) ?_
    cbv
    refine EW.vs [(6, .bool false), (3, .imm [.sl 3 (G.kind.l ks), .int .i64 root]), (1, .int .i64 k), (2, .str s)] [] 27 rfl ?_
    cbv
    refine And.intro (Pur.mk (by (repeat (first | exact rfl | exact Emb.purL _ _ | assumption | apply pur_cons | apply pur_sl | apply pur_slt | apply pur_agg | apply pur_tup)))) ?_
    ((try cbv) <;> (repeat ((with_reducible refine EW.of ?_); cbv)))
    (refine ⟨Ent.of (hP ▸ Try.func37) rfl, ?_⟩; refine TC.pureE h37 ?_; cbv; (repeat (first | exact trivial | refine And.intro (Emb.Pur _ _) ?_ | refine And.intro rfl ?_ | refine And.intro (Pur.mk rfl) ?_ | refine And.intro (Pur.mk (by assumption)) ?_)); ((try cbv) <;> (repeat ((with_reducible refine EW.of ?_); cbv))))
    refine bsplit (fun h => ?_) (fun h => ?_)
    · replace hr : r = true := by rw [hr, seq_t h]; rfl
      subst hr
      ((try cbv) <;> (repeat ((with_reducible refine EW.of ?_); cbv)))
    · have h := seq_f h
      cases xt with
      | false =>
        replace hr : r = false := by rw [hr]; simpa using h
        subst hr
        ((try cbv) <;> (repeat ((with_reducible refine EW.of ?_); cbv)))
      | true =>
        have hz : A.le (A.slen s) 40 = r := by
          rw [hr, A.ok_le, hsz]
          have h' : strEq s ⟨#[]⟩ = false := h
          rw [h', Bool.false_or, Bool.true_and]
          exact decide_eq_decide.2 ⟨fun h => Int.ofNat_le.1 h, fun h => Int.ofNat_le.2 h⟩
        ((try cbv) <;> (repeat ((with_reducible refine EW.of ?_); cbv)))
        exact ⟨hz, trivial⟩
set_option maxHeartbeats 1000000 in
theorem Text20 (A : Ar) (E : Em) (G : EmG) {P : Program} (hP : P = Try.prog) (g : Gra) (hg : g.ok) (k : Int) (s : ByteArray) : TPure P 20 [G.gv g, .int .i64 k, .str s] (.bool (textB g k s)) := by
  have h18 := Check18 A E G hP g hg
  obtain ⟨ks, root⟩ := g
  have hll := G.kind.len ks
  have hlk : A.len (G.kind.l ks) = (ks.length : Int) := by rw [A.ok_len, hll]
  have hsz := A.ok_slen s
  obtain ⟨r, hr⟩ : ∃ r, r = textB ⟨ks, root⟩ k s := ⟨_, rfl⟩
  rw [← hr]
  unfold textB kindO at hr
  dsimp only at hr
  obtain ⟨n, hn⟩ : ∃ n : Int, n = ks.length := ⟨_, rfl⟩
  have hnk : A.len (G.kind.l ks) = n := by rw [hlk, hn]
  obtain ⟨o, ho⟩ : ∃ o, o = (if checkB ⟨ks, root⟩ = true ∧ 0 ≤ k ∧ k < n then ks[k.toNat]? else none) := ⟨_, rfl⟩
  replace hr : r = textO s o := by rw [ho, hn]; exact hr
  generalize checkB ⟨ks, root⟩ = cb at h18 ho
  obtain ⟨e, he⟩ : ∃ e, e = errC cb := ⟨_, rfl⟩
  rw [← he] at h18
  have hne : A.bnot (A.eq e 0) = !cb := by rw [he]; exact errC_ne
  unfold EmG.gv at h18 ⊢
  dsimp only at h18 ⊢
  refine TPure.ofE A T0 (T0_ok hP) (hP ▸ Try.func20) rfl _ rfl (by simp) ?_
  cbv
  ((try cbv) <;> (repeat ((with_reducible refine EW.of ?_); cbv)))
  (refine ⟨Ent.of (hP ▸ Try.func18) rfl, ?_⟩; refine TC.pureE h18 ?_; cbv; (repeat (first | exact trivial | refine And.intro (Emb.Pur _ _) ?_ | refine And.intro rfl ?_ | refine And.intro (Pur.mk rfl) ?_ | refine And.intro (Pur.mk (by assumption)) ?_)); ((try cbv) <;> (repeat ((with_reducible refine EW.of ?_); cbv))))
  refine bsplit (fun h => ?_) (fun h => ?_)
  · have hcb : cb = false := by
      have h : A.bnot (A.eq e 0) = true := h
      rw [hne] at h; simpa using h
    replace ho : o = none := by rw [ho, if_neg (fun hc => by obtain ⟨c1, c2, c3⟩ := hc; first | omega | (rw [c1] at hcb; cases hcb))]
    rw [ho] at hr
    replace hr : r = false := hr
    subst hr
    cbv
    ((try cbv) <;> (repeat ((with_reducible refine EW.of ?_); cbv)))
  have hcb : cb = true := by
    have h : A.bnot (A.eq e 0) = false := h
    rw [hne] at h; simpa using h
  ((try cbv) <;> (repeat ((with_reducible refine EW.of ?_); cbv)))
  refine bsplit (fun h => ?_) (fun h => ?_)
  · have h : k < 0 := (by first | exact lt_t h (by first | rfl | assumption) (by first | rfl | assumption) | exact le_t h (by first | rfl | assumption) (by first | rfl | assumption) | exact eq_t h (by first | rfl | assumption) (by first | rfl | assumption) | exact ne_t h (by first | rfl | assumption) (by first | rfl | assumption) | exact lt_nt h (by first | rfl | assumption) (by first | rfl | assumption) | exact le_nt h (by first | rfl | assumption) (by first | rfl | assumption) | exact ne_nt h (by first | rfl | assumption) (by first | rfl | assumption) | exact seq_t h | exact (sne_t h))
    replace ho : o = none := by rw [ho, if_neg (fun hc => by obtain ⟨c1, c2, c3⟩ := hc; first | omega | (rw [c1] at hcb; cases hcb))]
    rw [ho] at hr
    replace hr : r = false := hr
    subst hr
    cbv
    ((try cbv) <;> (repeat ((with_reducible refine EW.of ?_); cbv)))
  have h : ¬ (k < 0) := (by first | exact not_lt_f h (by first | rfl | assumption) (by first | rfl | assumption) | exact not_le_f h (by first | rfl | assumption) (by first | rfl | assumption) | exact eq_f h (by first | rfl | assumption) (by first | rfl | assumption) | exact not_ne_f h (by first | rfl | assumption) (by first | rfl | assumption) | exact not_lt_nf h (by first | rfl | assumption) (by first | rfl | assumption) | exact not_le_nf h (by first | rfl | assumption) (by first | rfl | assumption) | exact not_ne_nf h (by first | rfl | assumption) (by first | rfl | assumption))
  ((try cbv) <;> (repeat ((with_reducible refine EW.of ?_); cbv)))
  have g1 := h
  refine bsplit (fun h => ?_) (fun h => ?_)
  · have h : n ≤ k := (by first | exact lt_t h (by first | rfl | assumption) (by first | rfl | assumption) | exact le_t h (by first | rfl | assumption) (by first | rfl | assumption) | exact eq_t h (by first | rfl | assumption) (by first | rfl | assumption) | exact ne_t h (by first | rfl | assumption) (by first | rfl | assumption) | exact lt_nt h (by first | rfl | assumption) (by first | rfl | assumption) | exact le_nt h (by first | rfl | assumption) (by first | rfl | assumption) | exact ne_nt h (by first | rfl | assumption) (by first | rfl | assumption) | exact seq_t h | exact (sne_t h))
    replace ho : o = none := by rw [ho, if_neg (fun hc => by obtain ⟨c1, c2, c3⟩ := hc; first | omega | (rw [c1] at hcb; cases hcb))]
    rw [ho] at hr
    replace hr : r = false := hr
    subst hr
    cbv
    ((try cbv) <;> (repeat ((with_reducible refine EW.of ?_); cbv)))
  have h : ¬ (n ≤ k) := (by first | exact not_lt_f h (by first | rfl | assumption) (by first | rfl | assumption) | exact not_le_f h (by first | rfl | assumption) (by first | rfl | assumption) | exact eq_f h (by first | rfl | assumption) (by first | rfl | assumption) | exact not_ne_f h (by first | rfl | assumption) (by first | rfl | assumption) | exact not_lt_nf h (by first | rfl | assumption) (by first | rfl | assumption) | exact not_le_nf h (by first | rfl | assumption) (by first | rfl | assumption) | exact not_ne_nf h (by first | rfl | assumption) (by first | rfl | assumption))
  ((try cbv) <;> (repeat ((with_reducible refine EW.of ?_); cbv)))
  have hk0 : k < n := by omega
  rw [if_pos ⟨hcb, by omega, hk0⟩] at ho
  obtain ⟨m, hm⟩ : ∃ m : Nat, k = m := ⟨k.toNat, by omega⟩
  subst hm
  rw [Int.toNat_natCast] at ho
  have hml : m < ks.length := by rw [hn] at hk0; exact Int.ofNat_lt.1 hk0
  obtain ⟨x, hx⟩ : ∃ x, ks[m]? = some x := ⟨_, List.getElem?_eq_getElem hml⟩
  rw [ho, hx] at hr
  dsimp only [textO] at hr
  have hgx := G.getk hx
  obtain ⟨xn, xt, xss⟩ := x
  dsimp only at hgx hr
  ((try cbv) <;> (repeat ((with_reducible refine EW.of ?_); cbv)))
  refine bsplit (fun h => ?_) (fun h => ?_)
  · replace hr : r = true := by rw [hr, seq_t h]; rfl
    subst hr
    ((try cbv) <;> (repeat ((with_reducible refine EW.of ?_); cbv)))
  · have h := seq_f h
    ((try cbv) <;> (repeat ((with_reducible refine EW.of ?_); cbv)))
    (refine ⟨_, _, rfl, hgx, ?_⟩; cbv; ((try cbv) <;> (repeat ((with_reducible refine EW.of ?_); cbv))))
    cases xt with
    | false =>
      replace hr : r = false := by rw [hr]; simpa using h
      subst hr
      ((try cbv) <;> (repeat ((with_reducible refine EW.of ?_); cbv)))
    | true =>
      have hz : A.le (A.slen s) 40 = r := by
        rw [hr, A.ok_le, hsz]
        have h' : strEq s ⟨#[]⟩ = false := h
        rw [h', Bool.false_or, Bool.true_and]
        exact decide_eq_decide.2 ⟨fun h => Int.ofNat_le.1 h, fun h => Int.ofNat_le.2 h⟩
      ((try cbv) <;> (repeat ((with_reducible refine EW.of ?_); cbv)))
      exact ⟨hz, trivial⟩
end Go.Proofs.Ytlngpfocngfokaa
