import Derived.Test.YtlngpfocngfokaaGf
/-! How many a kind needs; kinds found by name. -/
namespace Go.Proofs.Ytlngpfocngfokaa
open Go.Proofs.Ytlngpfocngfokaa.Tw
def sumL (A : Ar) : Int → List Slo → Int
  | n, [] => n
  | n, s :: ss => sumL A (A.op .add .i64 n s.least) ss
theorem sumL_drop {A : Ar} {n : Int} {l : List Slo} {j : Nat} {x : Slo} (h : l[j]? = some x) : sumL A n (l.drop j) = sumL A (A.op .add .i64 n x.least) (l.drop (j + 1)) := by
  rw [List.drop_eq_getElem?_toList_append, h]
  rfl
def leastO (A : Ar) : Option Knd → Int
  | none => 0
  | some x => sumL A 0 x.slots
def leastI (A : Ar) (g : Gra) (k : Int) : Int := leastO A (kindO g k)
theorem least43 (A : Ar) (E : Em) {P : Program} (hP : P = Try.prog) (ks : List Int) (l m : Int) : TPure P 43 [.imm [.sl 1 (E.int.l ks), .int .i64 l, .int .i64 m]] (.int .i64 l) := by
  refine TPure.ofE A T0 (T0_ok hP) (hP ▸ Try.func43) rfl _ rfl (by simp) ?_
  cbv
  ((try cbv) <;> (repeat ((with_reducible refine EW.of ?_); cbv)))
set_option maxHeartbeats 1000000 in
theorem sum42 (A : Ar) (E : Em) (G : EmG) {P : Program} (hP : P = Try.prog) (ss : List Slo) (hs : ss.length ≤ 9223372036854775807) : TPure P 42 [.sl 3 (G.slot.l ss), .func (.func 43) [] []] (.int .i64 (sumL A 0 ss)) := by
  have hll := G.slot.len ss
  have hlk : A.len (G.slot.l ss) = (ss.length : Int) := by rw [A.ok_len, hll]
  obtain ⟨r, hr⟩ : ∃ r, r = sumL A 0 ss := ⟨_, rfl⟩
  rw [← hr]
  refine TPure.ofE A T0 (T0_ok hP) (hP ▸ Try.func42) rfl _ rfl (by simp) ?_
  cbv
  ((try cbv) <;> (repeat ((with_reducible refine EW.of ?_); cbv)))
  obtain ⟨S, hS⟩ : ∃ S : LI (Nat × Int), S = ⟨fun x => [(9, .int .i64 x.1), (8, .int .i64 (A.len (G.slot.l ss))), (5, .int .i64 x.2), (4, .int .i64 0), (0, .sl 3 (G.slot.l ss)), (1, .func (.func 43) [] [])], fun _ => [], fun x => x.1 ≤ ss.length ∧ r = sumL A x.2 (ss.drop x.1), fun x => ss.length - x.1⟩ := ⟨_, rfl⟩
  refine TW.loopM A (T0_ok hP) S _ rfl (0, 0) ?_ ?_ ?_
  · rw [hS]; exact ⟨Nat.zero_le _, hr⟩
  · rw [hS]; cbv; (repeat (first | exact trivial | refine And.intro (Emb.Pur _ _) ?_ | refine And.intro rfl ?_ | refine And.intro (Pur.mk rfl) ?_ | refine And.intro (Pur.mk (by assumption)) ?_))
  rintro ⟨j, n⟩ hj l1 L1 e1 e2
  rw [hS] at hj e1 e2
  dsimp only at hj e1 e2
  obtain ⟨hj, hinv⟩ := hj
  subst e1 e2
  cbv
  ((try cbv) <;> (repeat ((with_reducible refine EW.of ?_); cbv)))
  refine bsplit (fun h => ?_) (fun h => ?_)
  · have h : j < ss.length := lt_nt h rfl hlk
    obtain ⟨x, hx⟩ : ∃ x, ss[j]? = some x := ⟨_, List.getElem?_eq_getElem h⟩
    rw [sumL_drop hx] at hinv
    have hgx := G.gets E hx
    have k43 := least43 A E hP x.kinds x.least x.most
    ((try cbv) <;> (repeat ((with_reducible refine EW.of ?_); cbv)))
    (refine ⟨_, _, rfl, hgx, ?_⟩; cbv; ((try cbv) <;> (repeat ((with_reducible refine EW.of ?_); cbv))))
    (refine ⟨Ent.of (hP ▸ Try.func43) rfl, ?_⟩; refine TC.pureE k43 ?_; cbv; (repeat (first | exact trivial | refine And.intro (Emb.Pur _ _) ?_ | refine And.intro rfl ?_ | refine And.intro (Pur.mk rfl) ?_ | refine And.intro (Pur.mk (by assumption)) ?_)); ((try cbv) <;> (repeat ((with_reducible refine EW.of ?_); cbv))))
    refine LM.of (j + 1, A.op .add .i64 n x.least) rfl ?_ ?_ ?_
    · rw [hS]; exact ⟨by show j + 1 ≤ _; omega, hinv⟩
    · rw [hS]; show ss.length - (j + 1) < ss.length - j; omega
    · rw [hS]; (cbv; (repeat (first | exact trivial | refine And.intro (Emb.Pur _ _) ?_ | refine And.intro rfl ?_ | refine And.intro (Pur.mk rfl) ?_ | refine And.intro (Pur.mk (by assumption)) ?_)); refine And.intro (inc_eq A (by omega)) ?_; (repeat (first | exact trivial | refine And.intro (Emb.Pur _ _) ?_ | refine And.intro rfl ?_ | refine And.intro (Pur.mk rfl) ?_ | refine And.intro (Pur.mk (by assumption)) ?_)))
  · have h : ss.length ≤ j := lt_nf h rfl hlk
    rw [List.drop_eq_nil_of_le h] at hinv
    replace hinv : r = n := hinv
    subst hinv
    ((try cbv) <;> (repeat ((with_reducible refine EW.of ?_); cbv)))
set_option maxHeartbeats 1000000 in
theorem Least15 (A : Ar) (E : Em) (G : EmG) (H : EmN) {P : Program} (hP : P = Try.prog) (g : Gra) (hg : g.ok) (k : Int) : TPure P 15 [G.gv g, .int .i64 k] (.int .i64 (leastI A g k)) := by
  have h37 := kind37 A E G H hP g hg k
  have hmem : ∀ x, kindO g k = some x → x.slots.length ≤ 9223372036854775807 := fun x hx => by
    unfold kindO at hx
    split at hx
    · exact (hg.slots x (List.mem_of_getElem? hx)).1
    · cases hx
  unfold leastI
  generalize kindO g k = o at h37 hmem
  obtain ⟨ks, root⟩ := g
  unfold EmG.gv
  dsimp only at h37 ⊢
  cases o with
  | none =>
    replace h37 : TPure P _ _ .nil := h37
    dsimp only [leastO]
    refine TPure.ofE A T0 (T0_ok hP) (hP ▸ Try.func15) rfl _ rfl (by simp) ?_
    cbv
    refine EW.vs [(4, .int .i64 0), (2, .imm [.sl 3 (G.kind.l ks), .int .i64 root]), (1, .int .i64 k)] [] 15 rfl ?_
    cbv
    refine And.intro (Pur.mk (by (repeat (first | exact rfl | exact Emb.purL _ _ | assumption | apply pur_cons | apply pur_sl | apply pur_slt | apply pur_agg | apply pur_tup)))) ?_
    ((try cbv) <;> (repeat ((with_reducible refine EW.of ?_); cbv)))
    (refine ⟨Ent.of (hP ▸ Try.func37) rfl, ?_⟩; refine TC.pureE h37 ?_; cbv; (repeat (first | exact trivial | refine And.intro (Emb.Pur _ _) ?_ | refine And.intro rfl ?_ | refine And.intro (Pur.mk rfl) ?_ | refine And.intro (Pur.mk (by assumption)) ?_)); ((try cbv) <;> (repeat ((with_reducible refine EW.of ?_); cbv))))
  | some x =>
    have k42 := sum42 A E G hP x.slots (hmem x rfl)
    obtain ⟨xn, xt, xss⟩ := x
    replace h37 : TPure P _ _ (.imm [.str xn, .bool xt, .sl 3 (G.slot.l xss)]) := h37
    dsimp only [leastO] at k42 ⊢
    generalize sumL A 0 xss = r at k42
    refine TPure.ofE A T0 (T0_ok hP) (hP ▸ Try.func15) rfl _ rfl (by simp) ?_
    cbv
    refine EW.vs [(4, .int .i64 0), (2, .imm [.sl 3 (G.kind.l ks), .int .i64 root]), (1, .int .i64 k)] [] 15 rfl ?_
    cbv
    refine And.intro (Pur.mk (by (repeat (first | exact rfl | exact Emb.purL _ _ | assumption | apply pur_cons | apply pur_sl | apply pur_slt | apply pur_agg | apply pur_tup)))) ?_
    ((try cbv) <;> (repeat ((with_reducible refine EW.of ?_); cbv)))
    (refine ⟨Ent.of (hP ▸ Try.func37) rfl, ?_⟩; refine TC.pureE h37 ?_; cbv; (repeat (first | exact trivial | refine And.intro (Emb.Pur _ _) ?_ | refine And.intro rfl ?_ | refine And.intro (Pur.mk rfl) ?_ | refine And.intro (Pur.mk (by assumption)) ?_)); ((try cbv) <;> (repeat ((with_reducible refine EW.of ?_); cbv))))
    (refine ⟨Ent.of (hP ▸ Try.func42) rfl, ?_⟩; refine TC.pureE k42 ?_; cbv; (repeat (first | exact trivial | refine And.intro (Emb.Pur _ _) ?_ | refine And.intro rfl ?_ | refine And.intro (Pur.mk rfl) ?_ | refine And.intro (Pur.mk (by assumption)) ?_)); ((try cbv) <;> (repeat ((with_reducible refine EW.of ?_); cbv))))
set_option maxHeartbeats 1000000 in
theorem Least21 (A : Ar) (E : Em) (G : EmG) {P : Program} (hP : P = Try.prog) (g : Gra) (hg : g.ok) (k : Int) : TPure P 21 [G.gv g, .int .i64 k] (.int .i64 (leastI A g k)) := by
  have h18 := Check18 A E G hP g hg
  obtain ⟨ks, root⟩ := g
  have hll := G.kind.len ks
  have hlk : A.len (G.kind.l ks) = (ks.length : Int) := by rw [A.ok_len, hll]
  obtain ⟨r, hr⟩ : ∃ r, r = leastI A ⟨ks, root⟩ k := ⟨_, rfl⟩
  rw [← hr]
  unfold leastI kindO at hr
  dsimp only at hr
  obtain ⟨n, hn⟩ : ∃ n : Int, n = ks.length := ⟨_, rfl⟩
  have hnk : A.len (G.kind.l ks) = n := by rw [hlk, hn]
  obtain ⟨o, ho⟩ : ∃ o, o = (if checkB ⟨ks, root⟩ = true ∧ 0 ≤ k ∧ k < n then ks[k.toNat]? else none) := ⟨_, rfl⟩
  replace hr : r = leastO A o := by rw [ho, hn]; exact hr
  generalize checkB ⟨ks, root⟩ = cb at h18 ho
  obtain ⟨e, he⟩ : ∃ e, e = errC cb := ⟨_, rfl⟩
  rw [← he] at h18
  have hne : A.bnot (A.eq e 0) = !cb := by rw [he]; exact errC_ne
  unfold EmG.gv at h18 ⊢
  dsimp only at h18 ⊢
  refine TPure.ofE A T0 (T0_ok hP) (hP ▸ Try.func21) rfl _ rfl (by simp) ?_
  cbv
  ((try cbv) <;> (repeat ((with_reducible refine EW.of ?_); cbv)))
  (refine ⟨Ent.of (hP ▸ Try.func18) rfl, ?_⟩; refine TC.pureE h18 ?_; cbv; (repeat (first | exact trivial | refine And.intro (Emb.Pur _ _) ?_ | refine And.intro rfl ?_ | refine And.intro (Pur.mk rfl) ?_ | refine And.intro (Pur.mk (by assumption)) ?_)); ((try cbv) <;> (repeat ((with_reducible refine EW.of ?_); cbv))))
  refine bsplit (fun h => ?_) (fun h => ?_)
  · have hcb : cb = false := by
      have h : A.bnot (A.eq e 0) = true := h
      rw [hne] at h; simpa using h
    replace ho : o = none := by rw [ho, if_neg (fun hc => by obtain ⟨c1, c2, c3⟩ := hc; first | omega | (rw [c1] at hcb; cases hcb))]
    rw [ho] at hr
    replace hr : r = 0 := hr
    subst hr
    cbv
    ((try cbv) <;> (repeat ((with_reducible refine EW.of ?_); cbv)))
  have hcb : cb = true := by
    have h : A.bnot (A.eq e 0) = false := h
    rw [hne] at h; simpa using h
  ((try cbv) <;> (repeat ((with_reducible refine EW.of ?_); cbv)))
  refine bsplit (fun h => ?_) (fun h => ?_)
  · have h : k < 0 := (by first | exact lt_t h (by first | rfl | assumption) (by first | rfl | assumption) | exact le_t h (by first | rfl | assumption) (by first | rfl | assumption) | exact eq_t h (by first | rfl | assumption) (by first | rfl | assumption) | exact ne_t h (by first | rfl | assumption) (by first | rfl | assumption) | exact lt_nt h (by first | rfl | assumption) (by first | rfl | assumption) | exact le_nt h (by first | rfl | assumption) (by first | rfl | assumption) | exact ne_nt h (by first | rfl | assumption) (by first | rfl | assumption) | exact seq_t h | exact (sne_t h))
    replace ho : o = none := by rw [ho, if_neg (fun hc => by obtain ⟨c1, c2, c3⟩ := hc; first | omega | (rw [c1] at hcb; cases hcb))]
    rw [ho] at hr
    replace hr : r = 0 := hr
    subst hr
    cbv
    ((try cbv) <;> (repeat ((with_reducible refine EW.of ?_); cbv)))
  have h : ¬ (k < 0) := (by first | exact not_lt_f h (by first | rfl | assumption) (by first | rfl | assumption) | exact not_le_f h (by first | rfl | assumption) (by first | rfl | assumption) | exact eq_f h (by first | rfl | assumption) (by first | rfl | assumption) | exact not_ne_f h (by first | rfl | assumption) (by first | rfl | assumption) | exact not_lt_nf h (by first | rfl | assumption) (by first | rfl | assumption) | exact not_le_nf h (by first | rfl | assumption) (by first | rfl | assumption) | exact not_ne_nf h (by first | rfl | assumption) (by first | rfl | assumption))
  ((try cbv) <;> (repeat ((with_reducible refine EW.of ?_); cbv)))
  have g1 := h
  refine bsplit (fun h => ?_) (fun h => ?_)
  · have h : n ≤ k := (by first | exact lt_t h (by first | rfl | assumption) (by first | rfl | assumption) | exact le_t h (by first | rfl | assumption) (by first | rfl | assumption) | exact eq_t h (by first | rfl | assumption) (by first | rfl | assumption) | exact ne_t h (by first | rfl | assumption) (by first | rfl | assumption) | exact lt_nt h (by first | rfl | assumption) (by first | rfl | assumption) | exact le_nt h (by first | rfl | assumption) (by first | rfl | assumption) | exact ne_nt h (by first | rfl | assumption) (by first | rfl | assumption) | exact seq_t h | exact (sne_t h))
    replace ho : o = none := by rw [ho, if_neg (fun hc => by obtain ⟨c1, c2, c3⟩ := hc; first | omega | (rw [c1] at hcb; cases hcb))]
    rw [ho] at hr
    replace hr : r = 0 := hr
    subst hr
    cbv
    ((try cbv) <;> (repeat ((with_reducible refine EW.of ?_); cbv)))
  have h : ¬ (n ≤ k) := (by first | exact not_lt_f h (by first | rfl | assumption) (by first | rfl | assumption) | exact not_le_f h (by first | rfl | assumption) (by first | rfl | assumption) | exact eq_f h (by first | rfl | assumption) (by first | rfl | assumption) | exact not_ne_f h (by first | rfl | assumption) (by first | rfl | assumption) | exact not_lt_nf h (by first | rfl | assumption) (by first | rfl | assumption) | exact not_le_nf h (by first | rfl | assumption) (by first | rfl | assumption) | exact not_ne_nf h (by first | rfl | assumption) (by first | rfl | assumption))
  ((try cbv) <;> (repeat ((with_reducible refine EW.of ?_); cbv)))
  have hk0 : k < n := by omega
  rw [if_pos ⟨hcb, by omega, hk0⟩] at ho
  obtain ⟨m, hm⟩ : ∃ m : Nat, k = m := ⟨k.toNat, by omega⟩
  subst hm
  rw [Int.toNat_natCast] at ho
  have hml : m < ks.length := by rw [hn] at hk0; exact Int.ofNat_lt.1 hk0
  obtain ⟨x, hx⟩ : ∃ x, ks[m]? = some x := ⟨_, List.getElem?_eq_getElem hml⟩
  rw [ho, hx] at hr
  dsimp only [leastO] at hr
  have hgx := G.getk hx
  have hsl9 := (hg.slots x (List.mem_of_getElem? hx)).1
  obtain ⟨xn, xt, ss⟩ := x
  dsimp only at hgx hr hsl9
  have hsl := G.slot.len ss
  have hsk : A.len (G.slot.l ss) = (ss.length : Int) := by rw [A.ok_len, hsl]
  ((try cbv) <;> (repeat ((with_reducible refine EW.of ?_); cbv)))
  obtain ⟨S, hS⟩ : ∃ S : LI (Nat × Int), S = ⟨fun x => [(6, .int .i64 x.1), (5, .int .i64 x.2), (4, .int .i64 0), (2, .ref 0 2 0 0), (1, .int .i64 m)], fun _ => [some (.box 2 (.agg [.sl 3 (G.kind.l ks), .int .i64 root]))], fun x => x.1 ≤ ss.length ∧ r = sumL A x.2 (ss.drop x.1), fun x => ss.length - x.1⟩ := ⟨_, rfl⟩
  refine TW.loopM A (T0_ok hP) S _ rfl (0, 0) ?_ ?_ ?_
  · rw [hS]; exact ⟨Nat.zero_le _, hr⟩
  · rw [hS]; cbv; (repeat (first | exact trivial | refine And.intro (Emb.Pur _ _) ?_ | refine And.intro rfl ?_ | refine And.intro (Pur.mk rfl) ?_ | refine And.intro (Pur.mk (by assumption)) ?_))
  rintro ⟨j, q⟩ hj l1 L1 e1 e2
  rw [hS] at hj e1 e2
  dsimp only at hj e1 e2
  obtain ⟨hj, hinv⟩ := hj
  subst e1 e2
  cbv
  ((try cbv) <;> (repeat ((with_reducible refine EW.of ?_); cbv)))
  (refine ⟨_, _, rfl, hgx, ?_⟩; cbv; ((try cbv) <;> (repeat ((with_reducible refine EW.of ?_); cbv))))
  refine bsplit (fun h => ?_) (fun h => ?_)
  · have h : j < ss.length := lt_nt h rfl hsk
    obtain ⟨x, hx⟩ : ∃ x, ss[j]? = some x := ⟨_, List.getElem?_eq_getElem h⟩
    rw [sumL_drop hx] at hinv
    have hgy := G.gets E hx
    ((try cbv) <;> (repeat ((with_reducible refine EW.of ?_); cbv)))
    (refine ⟨_, _, rfl, hgx, ?_⟩; cbv; ((try cbv) <;> (repeat ((with_reducible refine EW.of ?_); cbv))))
    (refine ⟨_, _, rfl, hgy, ?_⟩; cbv; ((try cbv) <;> (repeat ((with_reducible refine EW.of ?_); cbv))))
    refine LM.of (j + 1, A.op .add .i64 q x.least) rfl ?_ ?_ ?_
    · rw [hS]; exact ⟨by show j + 1 ≤ _; omega, hinv⟩
    · rw [hS]; show ss.length - (j + 1) < ss.length - j; omega
    · rw [hS]; (cbv; (repeat (first | exact trivial | refine And.intro (Emb.Pur _ _) ?_ | refine And.intro rfl ?_ | refine And.intro (Pur.mk rfl) ?_ | refine And.intro (Pur.mk (by assumption)) ?_)); refine And.intro (inc_eq A (by omega)) ?_; (repeat (first | exact trivial | refine And.intro (Emb.Pur _ _) ?_ | refine And.intro rfl ?_ | refine And.intro (Pur.mk rfl) ?_ | refine And.intro (Pur.mk (by assumption)) ?_)))
  · have h : ss.length ≤ j := lt_nf h rfl hsk
    rw [List.drop_eq_nil_of_le h] at hinv
    replace hinv : r = q := hinv
    subst hinv
    ((try cbv) <;> (repeat ((with_reducible refine EW.of ?_); cbv)))
end Go.Proofs.Ytlngpfocngfokaa
