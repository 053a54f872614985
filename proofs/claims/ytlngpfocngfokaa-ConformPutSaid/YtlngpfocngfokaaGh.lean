import Derived.Test.YtlngpfocngfokaaGg
/-! Kinds found by name. -/
namespace Go.Proofs.Ytlngpfocngfokaa
open Go.Proofs.Ytlngpfocngfokaa.Tw
def findF (s : ByteArray) : List Knd → Nat → Option Int
  | [], _ => none
  | k :: ks, j => if k.name = s then some (j : Int) else findF s ks (j + 1)
theorem findF_drop {s : ByteArray} {l : List Knd} {j : Nat} {x : Knd} (h : l[j]? = some x) : findF s (l.drop j) j = if x.name = s then some (j : Int) else findF s (l.drop (j + 1)) (j + 1) := by
  rw [List.drop_eq_getElem?_toList_append, h]
  rfl
theorem lkS_up (c : Nat) (k s : ByteArray) (v : Int) : ∀ m : EntS, lkS s (upS c k v m).2 = if s = k then some v else lkS s m
  | [] => by simp [upS, lkS]
  | x :: m => by
    have ih := lkS_up c k s v m
    unfold upS
    by_cases h : k = x.2.1
    · rw [if_pos h]
      by_cases e : s = k
      · simp [lkS, e]
      · have e' : s ≠ x.2.1 := fun e2 => e (e2.trans h.symm)
        simp [lkS, e, e']
    · rw [if_neg h]
      dsimp only
      unfold lkS
      by_cases e : s = x.2.1
      · rw [if_pos e, if_pos e, if_neg (fun e2 => h (e2.symm.trans e))]
      · rw [if_neg e, if_neg e]; exact ih
theorem lkS_mem {s : ByteArray} {i : Int} : ∀ {m : EntS}, lkS s m = some i → s ∈ m.map (·.2.1)
  | [], h => by cases h
  | x :: m, h => by
    unfold lkS at h
    split at h
    · rename_i e; simp [e]
    · have := lkS_mem h; simp at this ⊢; exact .inr this
theorem lk_names {s : ByteArray} : ∀ (ks : List Knd) (j : Nat) (st : Nat × EntS), freshB (st.2.map (·.2.1)) ks = true → lkS s (namesS ks j st).2 = match lkS s st.2 with | some i => some i | none => findF s ks j
  | [], j, st, _ => by rw [namesS, findF]; cases lkS s st.2 <;> rfl
  | k :: ks, j, st, h => by
    rw [freshB, Bool.and_eq_true, Bool.not_eq_true'] at h
    have hu := upS_len st.1 k.name j st.2
    rw [h.1, if_neg (by decide)] at hu
    rw [namesS, lk_names ks (j + 1) _ (by rw [hu]; exact h.2), lkS_up, findF]
    cases hl : lkS s st.2 with
    | some i =>
      have hne : s ≠ k.name := fun e => by
        have hm := lkS_mem hl
        have := List.any_eq_false.1 h.1 s hm
        simp [e] at this
      rw [if_neg hne]
    | none =>
      by_cases e : s = k.name
      · rw [if_pos e, if_pos e.symm]
      · rw [if_neg e, if_neg (fun e2 => e e2.symm)]
def foundI (o : Option Int) : Int := o.getD 0
def findO (g : Gra) (s : ByteArray) : Option Int := if checkB g then findF s g.kinds 0 else none
theorem check_fresh {g : Gra} (h : checkB g = true) : freshB [] g.kinds = true := by
  unfold checkB at h
  simp only [Bool.and_eq_true] at h
  exact h.2.1
set_option maxHeartbeats 1000000 in
theorem Find16 (A : Ar) (E : Em) (G : EmG) (H : EmN) {P : Program} (hP : P = Try.prog) (g : Gra) (hg : g.ok) (s : ByteArray) : TPure P 16 [G.gv g, .str s] (.tup [.int .i64 (foundI (findO g s)), .bool (findO g s).isSome]) := by
  have h14 := Check14 A E G H hP g hg
  have hfr := @check_fresh g
  obtain ⟨o, ho⟩ : ∃ o, o = findO g s := ⟨_, rfl⟩
  rw [← ho]
  obtain ⟨v, hv⟩ : ∃ v, v = foundI o := ⟨_, rfl⟩
  obtain ⟨b, hb⟩ : ∃ b, b = o.isSome := ⟨_, rfl⟩
  rw [← hv, ← hb]
  unfold findO at ho
  obtain ⟨ks, root⟩ := g
  have hk9 := hg.kinds
  dsimp only at hk9 hfr ho
  obtain ⟨c, es, hns⟩ : ∃ c es, namesS ks 0 (0, []) = (c, es) := ⟨_, _, rfl⟩
  have h40 := names40 A G H hP ks root hk9 c es hns
  have hlk := H.lk s es
  generalize checkB ⟨ks, root⟩ = cb at h14 ho hfr
  obtain ⟨e, he⟩ : ∃ e, e = errC cb := ⟨_, rfl⟩
  rw [← he] at h14
  have hne : A.bnot (A.eq e 0) = !cb := by rw [he]; exact errC_ne
  have hkeys := H.keys es s
  unfold EmG.gv at h14 ⊢
  dsimp only at h14 ⊢
  refine TPure.ofE A T0 (T0_ok hP) (hP ▸ Try.func16) rfl _ rfl (by simp) ?_
  cbv
  refine EW.vs [(4, .int .i64 0), (5, .bool false), (2, .imm [.sl 3 (G.kind.l ks), .int .i64 root]), (1, .str s)] [] 19 rfl ?_
  cbv
  refine And.intro (Pur.mk (by (repeat (first | exact rfl | exact Emb.purL _ _ | assumption | apply pur_cons | apply pur_sl | apply pur_slt | apply pur_agg | apply pur_tup)))) ?_
  ((try cbv) <;> (repeat ((with_reducible refine EW.of ?_); cbv)))
  (refine ⟨Ent.of (hP ▸ Try.func14) rfl, ?_⟩; refine TC.pureE h14 ?_; cbv; (repeat (first | exact trivial | refine And.intro (Emb.Pur _ _) ?_ | refine And.intro rfl ?_ | refine And.intro (Pur.mk rfl) ?_ | refine And.intro (Pur.mk (by assumption)) ?_)); ((try cbv) <;> (repeat ((with_reducible refine EW.of ?_); cbv))))
  refine bsplit (fun h => ?_) (fun h => ?_)
  · have hcb : cb = false := by
      have h : A.bnot (A.eq e 0) = true := h
      rw [hne] at h; simpa using h
    rw [hcb, if_neg (by decide)] at ho
    rw [ho] at hv hb
    replace hv : v = 0 := hv
    replace hb : b = false := hb
    subst hv hb
    cbv
    ((try cbv) <;> (repeat ((with_reducible refine EW.of ?_); cbv)))
  have hcb : cb = true := by
    have h : A.bnot (A.eq e 0) = false := h
    rw [hne] at h; simpa using h
  rw [hcb, if_pos rfl] at ho
  have hln := lk_names (s := s) ks 0 (0, []) (hfr hcb)
  rw [hns] at hln
  replace hln : lkS s es = o := by rw [ho]; exact hln
  rw [hln] at hlk
  ((try cbv) <;> (repeat ((with_reducible refine EW.of ?_); cbv)))
  refine ⟨Ent.of (hP ▸ Try.func40) rfl, ?_⟩
  refine TC1.call [] h40 ?_
  cbv
  (repeat (first | exact trivial | refine And.intro (H.pur _) ?_ | refine And.intro (Emb.Pur _ _) ?_ | refine And.intro rfl ?_ | refine And.intro (Pur.mk rfl) ?_))
  ((try cbv) <;> (repeat ((with_reducible refine EW.of ?_); cbv)))
  refine ⟨hkeys, _, hlk, ?_⟩
  cases o with
  | none =>
    replace hv : v = 0 := hv
    replace hb : b = false := hb
    subst hv hb
    cbv
    ((try cbv) <;> (repeat ((with_reducible refine EW.of ?_); cbv)))
  | some i =>
    replace hv : v = i := hv
    replace hb : b = true := hb
    subst hv hb
    cbv
    ((try cbv) <;> (repeat ((with_reducible refine EW.of ?_); cbv)))
set_option maxHeartbeats 1000000 in
theorem Find17 (A : Ar) (E : Em) (G : EmG) {P : Program} (hP : P = Try.prog) (g : Gra) (hg : g.ok) (s : ByteArray) : TPure P 17 [G.gv g, .str s] (.tup [.int .i64 (foundI (findO g s)), .bool (findO g s).isSome]) := by
  have h18 := Check18 A E G hP g hg
  obtain ⟨o, ho⟩ : ∃ o, o = findO g s := ⟨_, rfl⟩
  rw [← ho]
  obtain ⟨v, hv⟩ : ∃ v, v = foundI o := ⟨_, rfl⟩
  obtain ⟨b, hb⟩ : ∃ b, b = o.isSome := ⟨_, rfl⟩
  rw [← hv, ← hb]
  unfold findO at ho
  obtain ⟨ks, root⟩ := g
  have hk9 := hg.kinds
  dsimp only at hk9 ho
  have hll := G.kind.len ks
  have hlk : A.len (G.kind.l ks) = (ks.length : Int) := by rw [A.ok_len, hll]
  generalize checkB ⟨ks, root⟩ = cb at h18 ho
  obtain ⟨e, he⟩ : ∃ e, e = errC cb := ⟨_, rfl⟩
  rw [← he] at h18
  have hne : A.bnot (A.eq e 0) = !cb := by rw [he]; exact errC_ne
  unfold EmG.gv at h18 ⊢
  dsimp only at h18 ⊢
  refine TPure.ofE A T0 (T0_ok hP) (hP ▸ Try.func17) rfl _ rfl (by simp) ?_
  cbv
  ((try cbv) <;> (repeat ((with_reducible refine EW.of ?_); cbv)))
  (refine ⟨Ent.of (hP ▸ Try.func18) rfl, ?_⟩; refine TC.pureE h18 ?_; cbv; (repeat (first | exact trivial | refine And.intro (Emb.Pur _ _) ?_ | refine And.intro rfl ?_ | refine And.intro (Pur.mk rfl) ?_ | refine And.intro (Pur.mk (by assumption)) ?_)); ((try cbv) <;> (repeat ((with_reducible refine EW.of ?_); cbv))))
  refine bsplit (fun h => ?_) (fun h => ?_)
  · have hcb : cb = false := by
      have h : A.bnot (A.eq e 0) = true := h
      rw [hne] at h; simpa using h
    rw [hcb, if_neg (by decide)] at ho
    replace hv : v = 0 := by rw [hv, ho]; rfl
    replace hb : b = false := by rw [hb, ho]; rfl
    subst hv hb
    cbv
    ((try cbv) <;> (repeat ((with_reducible refine EW.of ?_); cbv)))
  have hcb : cb = true := by
    have h : A.bnot (A.eq e 0) = false := h
    rw [hne] at h; simpa using h
  rw [hcb, if_pos rfl] at ho
  ((try cbv) <;> (repeat ((with_reducible refine EW.of ?_); cbv)))
  obtain ⟨S, hS⟩ : ∃ S : LI Nat, S = ⟨fun j => [(6, .int .i64 j), (4, .int .i64 0), (5, .bool false), (2, .ref 0 2 0 0), (1, .str s)], fun _ => [some (.box 2 (.agg [.sl 3 (G.kind.l ks), .int .i64 root]))], fun j => j ≤ ks.length ∧ o = findF s (ks.drop j) j, fun j => ks.length - j⟩ := ⟨_, rfl⟩
  refine TW.loopM A (T0_ok hP) S _ rfl 0 ?_ ?_ ?_
  · rw [hS]; exact ⟨Nat.zero_le _, ho⟩
  · rw [hS]; cbv; (repeat (first | exact trivial | refine And.intro (Emb.Pur _ _) ?_ | refine And.intro rfl ?_ | refine And.intro (Pur.mk rfl) ?_ | refine And.intro (Pur.mk (by assumption)) ?_))
  intro j hj l1 L1 e1 e2; rw [hS] at hj e1 e2; dsimp only at hj e1 e2; obtain ⟨hj, hinv⟩ := hj; subst e1 e2
  cbv
  ((try cbv) <;> (repeat ((with_reducible refine EW.of ?_); cbv)))
  refine bsplit (fun h => ?_) (fun h => ?_)
  · have h : j < ks.length := lt_nt h rfl hlk
    obtain ⟨x, hx⟩ : ∃ x, ks[j]? = some x := ⟨_, List.getElem?_eq_getElem h⟩
    rw [findF_drop hx] at hinv
    have hgx := G.getk hx
    obtain ⟨xn, xt, xss⟩ := x
    dsimp only at hgx hinv
    ((try cbv) <;> (repeat ((with_reducible refine EW.of ?_); cbv)))
    (refine ⟨_, _, rfl, hgx, ?_⟩; cbv; ((try cbv) <;> (repeat ((with_reducible refine EW.of ?_); cbv))))
    refine bsplit (fun h4 => ?_) (fun h4 => ?_)
    · have h4 : xn = s := strEq_iff.1 (seq_t h4)
      rw [if_pos h4] at hinv
      replace hv : v = (j : Int) := by rw [hv, hinv]; rfl
      replace hb : b = true := by rw [hb, hinv]; rfl
      subst hv hb
      cbv
      ((try cbv) <;> (repeat ((with_reducible refine EW.of ?_); cbv)))
    · have h4 : xn ≠ s := strEq_ne.1 (seq_f h4)
      rw [if_neg h4] at hinv
      ((try cbv) <;> (repeat ((with_reducible refine EW.of ?_); cbv)))
      refine LM.of (j + 1) rfl ?_ ?_ ?_
      · rw [hS]; exact ⟨by show j + 1 ≤ _; omega, hinv⟩
      · rw [hS]; show ks.length - (j + 1) < ks.length - j; omega
      · rw [hS]; (cbv; (repeat (first | exact trivial | refine And.intro (Emb.Pur _ _) ?_ | refine And.intro rfl ?_ | refine And.intro (Pur.mk rfl) ?_ | refine And.intro (Pur.mk (by assumption)) ?_)); refine And.intro (inc_eq A (by omega)) ?_; (repeat (first | exact trivial | refine And.intro (Emb.Pur _ _) ?_ | refine And.intro rfl ?_ | refine And.intro (Pur.mk rfl) ?_ | refine And.intro (Pur.mk (by assumption)) ?_)))
  · have h : ks.length ≤ j := lt_nf h rfl hlk
    rw [List.drop_eq_nil_of_le h] at hinv
    replace ho : o = none := hinv
    replace hv : v = 0 := by rw [hv, ho]; rfl
    replace hb : b = false := by rw [hb, ho]; rfl
    subst hv hb
    cbv
    ((try cbv) <;> (repeat ((with_reducible refine EW.of ?_); cbv)))
end Go.Proofs.Ytlngpfocngfokaa
