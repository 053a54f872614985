import Derived.Test.YtmbbdabcbnemiaaSj
/-! CodeReads, walked whole. -/
namespace Go.Proofs.Ytmbbdabcbnemiaa
open Go.Proofs.Ytmbbdabcbnemiaa.Tw
theorem listR_all {α : Type} {p : α → Prop} {one : Nat → Nat → RN α} (h1 : ∀ c a x c2 a2, one c a = .ok x c2 a2 → p x) : ∀ (n c a : Nat) (xs : List α) (c2 a2 : Nat), listR one n c a = .ok xs c2 a2 → xs.length = n ∧ ∀ x ∈ xs, p x
  | 0, c, a, xs, c2, a2, h => by cases h; exact ⟨rfl, fun x hx => by cases hx⟩
  | n + 1, c, a, xs, c2, a2, h => by
    rw [listR] at h
    cases ho : one c a with
    | no e c3 a3 => rw [ho] at h; cases h
    | ok x c3 a3 =>
    rw [ho] at h
    simp only [RN.bind] at h
    cases hq : listR one n c3 a3 with
    | no e c4 a4 => rw [hq] at h; cases h
    | ok ys c4 a4 =>
    rw [hq] at h
    cases h
    have := listR_all h1 n c3 a3 ys c2 a2 hq
    refine ⟨by rw [List.length_cons, this.1], fun y hy => ?_⟩
    rcases List.mem_cons.1 hy with rfl | hy
    · exact h1 _ _ _ _ _ ho
    · exact this.2 y hy
theorem nodeR_tok {A : Ar} {bs : List UInt8} (hl : bs.length ≤ 1000000000) : ∀ (f c a : Nat) (t : Tree) (c2 a2 : Nat), nodeR A bs f c a = .ok t c2 a2 → t.ok
  | 0, c, a, t, c2, a2, h => by cases h
  | f + 1, c, a, t, c2, a2, h => by
    rw [nodeR] at h
    split at h
    · cases h
    cases h1 : numR A bs a with
    | no e a3 => rw [h1] at h; cases h
    | ok i a3 =>
    rw [h1] at h
    simp only [RR.toN, RN.bind] at h
    cases h2 : numR A bs a3 with
    | no e a4 => rw [h2] at h; cases h
    | ok k a4 =>
    rw [h2] at h
    simp only [RN.bind] at h
    cases h3 : textR A bs a4 with
    | no e a5 => rw [h3] at h; cases h
    | ok s a5 =>
    rw [h3] at h
    simp only [RN.bind] at h
    cases h4 : countR A bs a5 32 bs.length with
    | no e a6 => rw [h4] at h; cases h
    | ok n a6 =>
    rw [h4] at h
    simp only [RN.bind] at h
    cases h5 : listR (nodeR A bs f) n.toNat (c + 1) a6 with
    | no e c7 a7 => rw [h5] at h; cases h
    | ok ks c7 a7 =>
    rw [h5] at h
    cases h
    have h6 := listR_all (p := Tree.ok) (nodeR_tok hl f) _ _ _ _ _ _ h5
    have h7 := countR_ok hl h4
    exact .node (by omega) h6.2
theorem tree0_ok : tree0.ok := .node (by decide) (fun t ht => by cases ht)
theorem askT2_tok {A : Ar} {bs : List UInt8} (hl : bs.length ≤ 1000000000) {a : Nat} {b : Int} {v : Tree} {a2 : Nat} {b2 : Int} (h : askR tree0 bs a b (nodeTR A bs a) = (v, a2, b2)) : v.ok := by
  unfold askR at h
  split at h
  · cases h; exact tree0_ok
  unfold nodeTR at h
  cases hr : nodeR A bs 40 0 a with
  | no e c a3 => rw [hr] at h; cases h; exact tree0_ok
  | ok x c a3 => rw [hr] at h; cases h; exact nodeR_tok hl _ _ _ _ _ _ hr
theorem stepR_tok {A : Ar} {bs : List UInt8} (hl : bs.length ≤ 1000000000) {a a2 : Nat} {x : Stp} (h : stepR A bs a = .ok x a2) : x.sub.ok := by
  unfold stepR at h
  cases h0 : smallR A bs a with
  | no e a3 => rw [h0] at h; cases h
  | ok op b0 =>
  rw [h0] at h
  simp only [RR.bind] at h
  cases h1 : numR A bs b0 with
  | no e a3 => rw [h1] at h; cases h
  | ok id b1 =>
  rw [h1] at h
  simp only at h
  cases h2 : numR A bs b1 with
  | no e a3 => rw [h2] at h; cases h
  | ok par b2 =>
  rw [h2] at h
  simp only at h
  cases h3 : numR A bs b2 with
  | no e a3 => rw [h3] at h; cases h
  | ok pl b3 =>
  rw [h3] at h
  simp only at h
  cases h4 : textR A bs b3 with
  | no e a3 => rw [h4] at h; cases h
  | ok s b4 =>
  rw [h4] at h
  simp only at h
  cases h5 : nodeTR A bs b4 with
  | no e a3 => rw [h5] at h; cases h
  | ok t b5 =>
  rw [h5] at h
  cases h
  exact askT2_tok (A := A) (b := -1) hl (by rw [askR_ok (by decide) h5])
theorem askSt_tok {A : Ar} {bs : List UInt8} (hl : bs.length ≤ 1000000000) {a : Nat} {b : Int} {v : List Stp} {a2 : Nat} {b2 : Int} (h : askR [] bs a b (stepsR A bs a) = (v, a2, b2)) : v.length ≤ 60 ∧ ∀ x ∈ v, x.sub.ok := by
  have hn : (([] : List Stp).length ≤ 60 ∧ ∀ x ∈ ([] : List Stp), x.sub.ok) := ⟨by decide, fun x hx => by cases hx⟩
  unfold askR at h
  split at h
  · cases h; exact hn
  unfold stepsR at h
  cases hc : countR A bs a 57 60 with
  | no e a3 => rw [hc] at h; cases h; exact hn
  | ok n a3 =>
  rw [hc] at h
  simp only [RR.bind] at h
  have h7 := countR_ok hl hc
  cases hr : listR (oneS A bs) n.toNat 0 a3 with
  | no e c a4 => rw [hr] at h; cases h; exact hn
  | ok xs c a4 =>
    rw [hr] at h; cases h
    have h6 := listR_all (p := fun x : Stp => x.sub.ok) (one := oneS A bs) (fun c a x c2 a2 h => by
      unfold oneS at h
      cases hs : stepR A bs a with
      | no e a3 => rw [hs] at h; cases h
      | ok y a3 => rw [hs] at h; cases h; exact stepR_tok hl hs) _ _ _ _ _ _ hr
    exact ⟨by omega, h6.2⟩
theorem askSt_pos {A : Ar} {bs : List UInt8} (hl : bs.length ≤ 1000000000) {a : Nat} (ha : a ≤ bs.length) {b : Int} {v : List Stp} {a2 : Nat} {b2 : Int} (h : askR [] bs a b (stepsR A bs a) = (v, a2, b2)) : a2 ≤ bs.length := by
  have h2 := stepsF_R (A := A) (c := 0) hl ha (b := b)
  rw [h] at h2
  have h3 := (Prod.mk.inj h2.1).2
  have h4 := h2.2
  rw [h3] at h4
  exact h4
theorem notF {b : Bool} : b = true → (match b with | true => false | false => true) = false := by rintro rfl; rfl
set_option maxHeartbeats 16000000 in
theorem lawReads (A : Ar) (E : Em) (B : EmB) (F : EmS) {P : Program} (hP : P = Try.prog) (bs : List UInt8) (ks : List Int) (size most : Int) : TPure P 4 [.sl 1 (B.l.l bs), .sl 1 (E.int.l ks), .int .i64 size, .int .i64 most] (.bool true) := by
  have h9 := wakes9 A B hP
  have hll := B.l.len bs
  have hlk : A.len (B.l.l bs) = (bs.length : Int) := by rw [A.ok_len, hll]
  have hkl := E.int.len ks
  have hkk : A.len (E.int.l ks) = (ks.length : Int) := by rw [A.ok_len, hkl]
  refine TPure.ofE A T0 (T0_ok hP) (hP ▸ Try.func4) rfl _ rfl (by simp) ?_
  cbv
  ((try cbv) <;> (repeat ((with_reducible refine EW.of ?_); cbv)))
  refine bsplit (fun h1 => ?_) (fun h1 => ?_)
  · skip
    cbv
    ((try cbv) <;> (repeat ((with_reducible refine EW.of ?_); cbv)))
    (refine ⟨Ent.of (hP ▸ Try.func9) rfl, ?_⟩; refine TC.pureE h9 ?_; cbv; (repeat (first | exact trivial | refine And.intro (Emb.Pur _ _) ?_ | refine And.intro rfl ?_ | refine And.intro (Pur.mk rfl) ?_ | refine And.intro (Pur.mk (by assumption)) ?_)); ((try cbv) <;> (repeat ((with_reducible refine EW.of ?_); cbv))))
  have h1 : bs.length ≤ 20000 := lt_nf (i := 20000) h1 rfl hlk
  have hl : bs.length ≤ 1000000000 := by omega
  cbv
  refine bsplit (fun h2 => ?_) (fun h2 => ?_)
  · skip
    cbv
    ((try cbv) <;> (repeat ((with_reducible refine EW.of ?_); cbv)))
    (refine ⟨Ent.of (hP ▸ Try.func9) rfl, ?_⟩; refine TC.pureE h9 ?_; cbv; (repeat (first | exact trivial | refine And.intro (Emb.Pur _ _) ?_ | refine And.intro rfl ?_ | refine And.intro (Pur.mk rfl) ?_ | refine And.intro (Pur.mk (by assumption)) ?_)); ((try cbv) <;> (repeat ((with_reducible refine EW.of ?_); cbv))))
  have h2 : ks.length ≤ 60 := lt_nf (i := 60) h2 rfl hkk
  cbv
  ((try cbv) <;> (repeat ((with_reducible refine EW.of ?_); cbv)))
  refine bsplit (fun h3 => ?_) (fun h3 => ?_)
  · skip
    cbv
    ((try cbv) <;> (repeat ((with_reducible refine EW.of ?_); cbv)))
    (refine ⟨Ent.of (hP ▸ Try.func9) rfl, ?_⟩; refine TC.pureE h9 ?_; cbv; (repeat (first | exact trivial | refine And.intro (Emb.Pur _ _) ?_ | refine And.intro rfl ?_ | refine And.intro (Pur.mk rfl) ?_ | refine And.intro (Pur.mk (by assumption)) ?_)); ((try cbv) <;> (repeat ((with_reducible refine EW.of ?_); cbv))))
  have h18 := New18 A B hP bs hl
  have h19 := New19 A B hP bs
  unfold rdr at h18
  unfold rdrF at h19
  cbv
  ((try cbv) <;> (repeat ((with_reducible refine EW.of ?_); cbv)))
  refine ⟨Ent.of (hP ▸ Try.func18) rfl, ?_⟩
  refine TC1.call [] h18 ?_
  cbv
  (repeat (first | exact trivial | refine And.intro (Emb.Pur _ _) ?_ | refine And.intro rfl ?_ | refine And.intro (Pur.mk rfl) ?_))
  ((try cbv) <;> (repeat ((with_reducible refine EW.of ?_); cbv)))
  refine ⟨Ent.of (hP ▸ Try.func19) rfl, ?_⟩
  refine TC1.call [] h19 ?_
  cbv
  (repeat (first | exact trivial | refine And.intro (Emb.Pur _ _) ?_ | refine And.intro rfl ?_ | refine And.intro (Pur.mk rfl) ?_))
  ((try cbv) <;> (repeat ((with_reducible refine EW.of ?_); cbv)))
  obtain ⟨S, hS⟩ : ∃ S : LI (Nat × Nat × Int × Nat), S = ⟨fun x => [(49, .int .i64 x.1), (48, .int .i64 (A.len (E.int.l ks))), (47, .sl 1 (E.int.l ks)), (9, .ref 0 3 0 0), (10, .ref 1 4 0 0), (8, .bool false), (2, .int .i64 size), (3, .int .i64 most)], fun x => [some (.box 3 (.agg [.sl 1 (B.l.l bs), .int .i64 x.2.1, .int .i64 x.2.2.1])), some (.box 4 (.agg [.sl 1 (B.l.l bs), .int .i64 x.2.1, .int .i64 x.2.2.1, .int .i64 x.2.2.2]))], fun x => x.1 ≤ ks.length ∧ x.2.1 ≤ bs.length, fun x => ks.length - x.1⟩ := ⟨_, rfl⟩
  refine TW.loopM A (T0_ok hP) S _ rfl (0, 0, -1, 0) ?_ ?_ ?_
  · rw [hS]; exact ⟨Nat.zero_le _, Nat.zero_le _⟩
  · rw [hS]
    cbv
    (repeat (first | exact trivial | refine And.intro (Emb.Pur _ _) ?_ | refine And.intro rfl ?_ | refine And.intro (Pur.mk rfl) ?_))
  rintro ⟨j, a, b, c⟩ hj l1 L1 e1 e2
  rw [hS] at hj e1 e2
  dsimp only at hj e1 e2
  obtain ⟨hj, ha⟩ := hj
  subst e1 e2
  cbv
  ((try cbv) <;> (repeat ((with_reducible refine EW.of ?_); cbv)))
  refine bsplit (fun h => ?_) (fun h => ?_)
  · have h : j < (E.int.l ks).length := lt_nt h rfl (A.ok_len _)
    obtain ⟨i, hi⟩ : ∃ i, ks[j]? = some i := ⟨_, List.getElem?_eq_getElem (by omega)⟩
    have hjn : j + 1 ≤ ks.length := by omega
    ((try cbv) <;> (repeat ((with_reducible refine EW.of ?_); cbv)))
    refine ⟨j, _, rfl, E.geti hi, ?_⟩
    cbv
    ((try cbv) <;> (repeat ((with_reducible refine EW.of ?_); cbv)))
    refine bsplit (fun h => ?_) (fun h => ?_)
    · clear h
      obtain ⟨v, a2, b2, hq⟩ : ∃ x y z, askR 0 bs a b (numR A bs a) = (x, y, z) := ⟨_, _, _, rfl⟩
      have k1 := Number20 A B hP bs hl a ha b v a2 b2 hq
      have k2 := Number21 A B hP bs hl a ha b c v a2 b2 hq
      obtain ⟨c2, hc2⟩ : ∃ c2, c2 = c := ⟨_, rfl⟩
      rw [← hc2] at k2
      subst hc2
      have ha2 := askN_pos ha hq
      unfold rdr at k1
      unfold rdrF at k2
      ((try cbv) <;> (repeat ((with_reducible refine EW.of ?_); cbv)))
      refine ⟨Ent.of (hP ▸ Try.func20) rfl, ?_⟩
      refine TC1.call [0] k1 ?_
      cbv
      (repeat (first | exact trivial | refine And.intro (Emb.Pur _ _) ?_ | refine And.intro rfl ?_ | refine And.intro (Pur.mk rfl) ?_))
      ((try cbv) <;> (repeat ((with_reducible refine EW.of ?_); cbv)))
      refine ⟨Ent.of (hP ▸ Try.func21) rfl, ?_⟩
      refine TC1.call [1] k2 ?_
      cbv
      (repeat (first | exact trivial | refine And.intro (Emb.Pur _ _) ?_ | refine And.intro rfl ?_ | refine And.intro (Pur.mk rfl) ?_))
      ((try cbv) <;> (repeat ((with_reducible refine EW.of ?_); cbv)))
      obtain ⟨x, y, hend⟩ : ∃ x y, endR bs a2 b2 = (x, y) := ⟨_, _, rfl⟩
      have h34 := End34 A B hP bs a2 b2 x y hend
      have h35 := End35 A B hP bs a2 b2 c2 x y hend
      unfold rdr at h34
      unfold rdrF at h35
      refine ⟨Ent.of (hP ▸ Try.func34) rfl, ?_⟩
      refine TC1.call [0] h34 ?_
      cbv
      (repeat (first | exact trivial | refine And.intro (Emb.Pur _ _) ?_ | refine And.intro rfl ?_ | refine And.intro (Pur.mk rfl) ?_))
      ((try cbv) <;> (repeat ((with_reducible refine EW.of ?_); cbv)))
      refine ⟨Ent.of (hP ▸ Try.func35) rfl, ?_⟩
      refine TC1.call [1] h35 ?_
      cbv
      (repeat (first | exact trivial | refine And.intro (Emb.Pur _ _) ?_ | refine And.intro rfl ?_ | refine And.intro (Pur.mk rfl) ?_))
      ((try cbv) <;> (repeat ((with_reducible refine EW.of ?_); cbv)))
      refine bno (notF (eqT rfl)) ?_
      ((try cbv) <;> (repeat ((with_reducible refine EW.of ?_); cbv)))
      refine bno (neF rfl) ?_
      ((try cbv) <;> (repeat ((with_reducible refine EW.of ?_); cbv)))
      refine bno (neF rfl) ?_
      ((try cbv) <;> (repeat ((with_reducible refine EW.of ?_); cbv)))
      refine LM.of (j + 1, a2, b2, c2) rfl ?_ ?_ ?_
      · rw [hS]; exact ⟨hjn, ha2⟩
      · rw [hS]; show ks.length - (j + 1) < ks.length - j; omega
      · rw [hS]; (cbv; (repeat (first | exact trivial | refine And.intro (Emb.Pur _ _) ?_ | refine And.intro rfl ?_ | refine And.intro (Pur.mk rfl) ?_ | refine And.intro (Pur.mk (by assumption)) ?_)); refine And.intro (inc_eq A (by omega)) ?_; (repeat (first | exact trivial | refine And.intro (Emb.Pur _ _) ?_ | refine And.intro rfl ?_ | refine And.intro (Pur.mk rfl) ?_ | refine And.intro (Pur.mk (by assumption)) ?_)))
    clear h
    cbv
    ((try cbv) <;> (repeat ((with_reducible refine EW.of ?_); cbv)))
    refine bsplit (fun h => ?_) (fun h => ?_)
    · clear h
      obtain ⟨v, a2, b2, hq⟩ : ∃ x y z, askR 0 bs a b (smallR A bs a) = (x, y, z) := ⟨_, _, _, rfl⟩
      have k1 := Small22 A B hP bs hl a ha b v a2 b2 hq
      have k2 := Small23 A B hP bs hl a ha b c v a2 b2 hq
      obtain ⟨c2, hc2⟩ : ∃ c2, c2 = c := ⟨_, rfl⟩
      rw [← hc2] at k2
      subst hc2
      have ha2 := askS_pos ha hq
      unfold rdr at k1
      unfold rdrF at k2
      ((try cbv) <;> (repeat ((with_reducible refine EW.of ?_); cbv)))
      refine ⟨Ent.of (hP ▸ Try.func22) rfl, ?_⟩
      refine TC1.call [0] k1 ?_
      cbv
      (repeat (first | exact trivial | refine And.intro (Emb.Pur _ _) ?_ | refine And.intro rfl ?_ | refine And.intro (Pur.mk rfl) ?_))
      ((try cbv) <;> (repeat ((with_reducible refine EW.of ?_); cbv)))
      refine ⟨Ent.of (hP ▸ Try.func23) rfl, ?_⟩
      refine TC1.call [1] k2 ?_
      cbv
      (repeat (first | exact trivial | refine And.intro (Emb.Pur _ _) ?_ | refine And.intro rfl ?_ | refine And.intro (Pur.mk rfl) ?_))
      ((try cbv) <;> (repeat ((with_reducible refine EW.of ?_); cbv)))
      obtain ⟨x, y, hend⟩ : ∃ x y, endR bs a2 b2 = (x, y) := ⟨_, _, rfl⟩
      have h34 := End34 A B hP bs a2 b2 x y hend
      have h35 := End35 A B hP bs a2 b2 c2 x y hend
      unfold rdr at h34
      unfold rdrF at h35
      refine ⟨Ent.of (hP ▸ Try.func34) rfl, ?_⟩
      refine TC1.call [0] h34 ?_
      cbv
      (repeat (first | exact trivial | refine And.intro (Emb.Pur _ _) ?_ | refine And.intro rfl ?_ | refine And.intro (Pur.mk rfl) ?_))
      ((try cbv) <;> (repeat ((with_reducible refine EW.of ?_); cbv)))
      refine ⟨Ent.of (hP ▸ Try.func35) rfl, ?_⟩
      refine TC1.call [1] h35 ?_
      cbv
      (repeat (first | exact trivial | refine And.intro (Emb.Pur _ _) ?_ | refine And.intro rfl ?_ | refine And.intro (Pur.mk rfl) ?_))
      ((try cbv) <;> (repeat ((with_reducible refine EW.of ?_); cbv)))
      refine bno (notF (eqT rfl)) ?_
      ((try cbv) <;> (repeat ((with_reducible refine EW.of ?_); cbv)))
      refine bno (neF rfl) ?_
      ((try cbv) <;> (repeat ((with_reducible refine EW.of ?_); cbv)))
      refine bno (neF rfl) ?_
      ((try cbv) <;> (repeat ((with_reducible refine EW.of ?_); cbv)))
      refine LM.of (j + 1, a2, b2, c2) rfl ?_ ?_ ?_
      · rw [hS]; exact ⟨hjn, ha2⟩
      · rw [hS]; show ks.length - (j + 1) < ks.length - j; omega
      · rw [hS]; (cbv; (repeat (first | exact trivial | refine And.intro (Emb.Pur _ _) ?_ | refine And.intro rfl ?_ | refine And.intro (Pur.mk rfl) ?_ | refine And.intro (Pur.mk (by assumption)) ?_)); refine And.intro (inc_eq A (by omega)) ?_; (repeat (first | exact trivial | refine And.intro (Emb.Pur _ _) ?_ | refine And.intro rfl ?_ | refine And.intro (Pur.mk rfl) ?_ | refine And.intro (Pur.mk (by assumption)) ?_)))
    clear h
    cbv
    ((try cbv) <;> (repeat ((with_reducible refine EW.of ?_); cbv)))
    refine bsplit (fun h => ?_) (fun h => ?_)
    · clear h
      obtain ⟨v, a2, b2, hq⟩ : ∃ x y z, askR ⟨#[]⟩ bs a b (textR A bs a) = (x, y, z) := ⟨_, _, _, rfl⟩
      have k1 := Text24 A B hP bs hl a ha b v a2 b2 hq
      have k2 := Text25 A B hP bs hl a ha b c v a2 b2 hq
      obtain ⟨c2, hc2⟩ : ∃ c2, c2 = c := ⟨_, rfl⟩
      rw [← hc2] at k2
      subst hc2
      have ha2 := askT_pos hl ha hq
      unfold rdr at k1
      unfold rdrF at k2
      ((try cbv) <;> (repeat ((with_reducible refine EW.of ?_); cbv)))
      refine ⟨Ent.of (hP ▸ Try.func24) rfl, ?_⟩
      refine TC1.call [0] k1 ?_
      cbv
      (repeat (first | exact trivial | refine And.intro (Emb.Pur _ _) ?_ | refine And.intro rfl ?_ | refine And.intro (Pur.mk rfl) ?_))
      ((try cbv) <;> (repeat ((with_reducible refine EW.of ?_); cbv)))
      refine ⟨Ent.of (hP ▸ Try.func25) rfl, ?_⟩
      refine TC1.call [1] k2 ?_
      cbv
      (repeat (first | exact trivial | refine And.intro (Emb.Pur _ _) ?_ | refine And.intro rfl ?_ | refine And.intro (Pur.mk rfl) ?_))
      ((try cbv) <;> (repeat ((with_reducible refine EW.of ?_); cbv)))
      obtain ⟨x, y, hend⟩ : ∃ x y, endR bs a2 b2 = (x, y) := ⟨_, _, rfl⟩
      have h34 := End34 A B hP bs a2 b2 x y hend
      have h35 := End35 A B hP bs a2 b2 c2 x y hend
      unfold rdr at h34
      unfold rdrF at h35
      refine ⟨Ent.of (hP ▸ Try.func34) rfl, ?_⟩
      refine TC1.call [0] h34 ?_
      cbv
      (repeat (first | exact trivial | refine And.intro (Emb.Pur _ _) ?_ | refine And.intro rfl ?_ | refine And.intro (Pur.mk rfl) ?_))
      ((try cbv) <;> (repeat ((with_reducible refine EW.of ?_); cbv)))
      refine ⟨Ent.of (hP ▸ Try.func35) rfl, ?_⟩
      refine TC1.call [1] h35 ?_
      cbv
      (repeat (first | exact trivial | refine And.intro (Emb.Pur _ _) ?_ | refine And.intro rfl ?_ | refine And.intro (Pur.mk rfl) ?_))
      ((try cbv) <;> (repeat ((with_reducible refine EW.of ?_); cbv)))
      refine bno (notF (seqT rfl)) ?_
      ((try cbv) <;> (repeat ((with_reducible refine EW.of ?_); cbv)))
      refine bno (neF rfl) ?_
      ((try cbv) <;> (repeat ((with_reducible refine EW.of ?_); cbv)))
      refine bno (neF rfl) ?_
      ((try cbv) <;> (repeat ((with_reducible refine EW.of ?_); cbv)))
      refine LM.of (j + 1, a2, b2, c2) rfl ?_ ?_ ?_
      · rw [hS]; exact ⟨hjn, ha2⟩
      · rw [hS]; show ks.length - (j + 1) < ks.length - j; omega
      · rw [hS]; (cbv; (repeat (first | exact trivial | refine And.intro (Emb.Pur _ _) ?_ | refine And.intro rfl ?_ | refine And.intro (Pur.mk rfl) ?_ | refine And.intro (Pur.mk (by assumption)) ?_)); refine And.intro (inc_eq A (by omega)) ?_; (repeat (first | exact trivial | refine And.intro (Emb.Pur _ _) ?_ | refine And.intro rfl ?_ | refine And.intro (Pur.mk rfl) ?_ | refine And.intro (Pur.mk (by assumption)) ?_)))
    clear h
    cbv
    ((try cbv) <;> (repeat ((with_reducible refine EW.of ?_); cbv)))
    refine bsplit (fun h => ?_) (fun h => ?_)
    · clear h
      obtain ⟨v, a2, b2, hq⟩ : ∃ x y z, askR tree0 bs a b (nodeTR A bs a) = (x, y, z) := ⟨_, _, _, rfl⟩
      have k1 := Node26 A E B hP bs hl a ha b v a2 b2 hq
      have k2 := Node27 A E B hP bs hl a ha b c v a2 b2 hq
      obtain ⟨c2, hc2⟩ : ∃ c2, c2 = cntF A bs a b := ⟨_, rfl⟩
      rw [← hc2] at k2
      have ha2 := askT2_pos hl ha hq
      unfold rdr at k1
      unfold rdrF at k2
      have k3 := Same28 A E hP v v (askT2_tok hl hq)
      rw [sameT_refl] at k3
      obtain ⟨ti, tk, ts, tks⟩ := v
      rw [E.node] at k1 k2 k3
      ((try cbv) <;> (repeat ((with_reducible refine EW.of ?_); cbv)))
      refine ⟨Ent.of (hP ▸ Try.func26) rfl, ?_⟩
      refine TC1.call [0] k1 ?_
      cbv
      (repeat (first | exact trivial | refine And.intro (Emb.Pur _ _) ?_ | refine And.intro rfl ?_ | refine And.intro (Pur.mk rfl) ?_))
      ((try cbv) <;> (repeat ((with_reducible refine EW.of ?_); cbv)))
      refine ⟨Ent.of (hP ▸ Try.func27) rfl, ?_⟩
      refine TC1.call [1] k2 ?_
      cbv
      (repeat (first | exact trivial | refine And.intro (Emb.Pur _ _) ?_ | refine And.intro rfl ?_ | refine And.intro (Pur.mk rfl) ?_))
      ((try cbv) <;> (repeat ((with_reducible refine EW.of ?_); cbv)))
      (refine ⟨Ent.of (hP ▸ Try.func28) rfl, ?_⟩; refine TC.pureE k3 ?_; cbv; (repeat (first | exact trivial | refine And.intro (Emb.Pur _ _) ?_ | refine And.intro rfl ?_ | refine And.intro (Pur.mk rfl) ?_ | refine And.intro (Pur.mk (by assumption)) ?_)); ((try cbv) <;> (repeat ((with_reducible refine EW.of ?_); cbv))))
      obtain ⟨x, y, hend⟩ : ∃ x y, endR bs a2 b2 = (x, y) := ⟨_, _, rfl⟩
      have h34 := End34 A B hP bs a2 b2 x y hend
      have h35 := End35 A B hP bs a2 b2 c2 x y hend
      unfold rdr at h34
      unfold rdrF at h35
      refine ⟨Ent.of (hP ▸ Try.func34) rfl, ?_⟩
      refine TC1.call [0] h34 ?_
      cbv
      (repeat (first | exact trivial | refine And.intro (Emb.Pur _ _) ?_ | refine And.intro rfl ?_ | refine And.intro (Pur.mk rfl) ?_))
      ((try cbv) <;> (repeat ((with_reducible refine EW.of ?_); cbv)))
      refine ⟨Ent.of (hP ▸ Try.func35) rfl, ?_⟩
      refine TC1.call [1] h35 ?_
      cbv
      (repeat (first | exact trivial | refine And.intro (Emb.Pur _ _) ?_ | refine And.intro rfl ?_ | refine And.intro (Pur.mk rfl) ?_))
      ((try cbv) <;> (repeat ((with_reducible refine EW.of ?_); cbv)))
      refine bno (neF rfl) ?_
      ((try cbv) <;> (repeat ((with_reducible refine EW.of ?_); cbv)))
      refine bno (neF rfl) ?_
      ((try cbv) <;> (repeat ((with_reducible refine EW.of ?_); cbv)))
      refine LM.of (j + 1, a2, b2, c2) rfl ?_ ?_ ?_
      · rw [hS]; exact ⟨hjn, ha2⟩
      · rw [hS]; show ks.length - (j + 1) < ks.length - j; omega
      · rw [hS]; (cbv; (repeat (first | exact trivial | refine And.intro (Emb.Pur _ _) ?_ | refine And.intro rfl ?_ | refine And.intro (Pur.mk rfl) ?_ | refine And.intro (Pur.mk (by assumption)) ?_)); refine And.intro (inc_eq A (by omega)) ?_; (repeat (first | exact trivial | refine And.intro (Emb.Pur _ _) ?_ | refine And.intro rfl ?_ | refine And.intro (Pur.mk rfl) ?_ | refine And.intro (Pur.mk (by assumption)) ?_)))
    clear h
    cbv
    ((try cbv) <;> (repeat ((with_reducible refine EW.of ?_); cbv)))
    refine bsplit (fun h => ?_) (fun h => ?_)
    · clear h
      obtain ⟨v, a2, b2, hq⟩ : ∃ x y z, askR [] bs a b (stepsR A bs a) = (x, y, z) := ⟨_, _, _, rfl⟩
      have k1 := Steps29 A E B F hP bs hl a ha b v a2 b2 hq
      obtain ⟨v2, c2, R2, hq2⟩ : ∃ x y z, stepsF A bs c a b = (x, y, z) := ⟨_, _, _, rfl⟩
      have hq3 := (stepsF_R (A := A) (c := c) hl ha (b := b)).1
      rw [hq2, hq] at hq3
      obtain ⟨rfl, rfl⟩ : v2 = v ∧ R2 = (a2, b2) := by cases hq3; exact ⟨rfl, rfl⟩
      have k2 := Steps30 A E B F hP bs hl a ha b c v2 c2 a2 b2 hq2
      have ha2 := askSt_pos hl ha hq
      unfold rdr at k1
      unfold rdrF at k2
      have k3 := SameSteps31 A E F hP v2 v2 (askSt_tok hl hq).2 (by have := (askSt_tok hl hq).1; omega)
      rw [sameL_refl] at k3
      ((try cbv) <;> (repeat ((with_reducible refine EW.of ?_); cbv)))
      refine ⟨Ent.of (hP ▸ Try.func29) rfl, ?_⟩
      refine TC1.call [0] k1 ?_
      cbv
      (repeat (first | exact trivial | refine And.intro (Emb.Pur _ _) ?_ | refine And.intro rfl ?_ | refine And.intro (Pur.mk rfl) ?_))
      ((try cbv) <;> (repeat ((with_reducible refine EW.of ?_); cbv)))
      refine ⟨Ent.of (hP ▸ Try.func30) rfl, ?_⟩
      refine TC1.call [1] k2 ?_
      cbv
      (repeat (first | exact trivial | refine And.intro (Emb.Pur _ _) ?_ | refine And.intro rfl ?_ | refine And.intro (Pur.mk rfl) ?_))
      ((try cbv) <;> (repeat ((with_reducible refine EW.of ?_); cbv)))
      (refine ⟨Ent.of (hP ▸ Try.func31) rfl, ?_⟩; refine TC.pureE k3 ?_; cbv; (repeat (first | exact trivial | refine And.intro (Emb.Pur _ _) ?_ | refine And.intro rfl ?_ | refine And.intro (Pur.mk rfl) ?_ | refine And.intro (Pur.mk (by assumption)) ?_)); ((try cbv) <;> (repeat ((with_reducible refine EW.of ?_); cbv))))
      obtain ⟨x, y, hend⟩ : ∃ x y, endR bs a2 b2 = (x, y) := ⟨_, _, rfl⟩
      have h34 := End34 A B hP bs a2 b2 x y hend
      have h35 := End35 A B hP bs a2 b2 c2 x y hend
      unfold rdr at h34
      unfold rdrF at h35
      refine ⟨Ent.of (hP ▸ Try.func34) rfl, ?_⟩
      refine TC1.call [0] h34 ?_
      cbv
      (repeat (first | exact trivial | refine And.intro (Emb.Pur _ _) ?_ | refine And.intro rfl ?_ | refine And.intro (Pur.mk rfl) ?_))
      ((try cbv) <;> (repeat ((with_reducible refine EW.of ?_); cbv)))
      refine ⟨Ent.of (hP ▸ Try.func35) rfl, ?_⟩
      refine TC1.call [1] h35 ?_
      cbv
      (repeat (first | exact trivial | refine And.intro (Emb.Pur _ _) ?_ | refine And.intro rfl ?_ | refine And.intro (Pur.mk rfl) ?_))
      ((try cbv) <;> (repeat ((with_reducible refine EW.of ?_); cbv)))
      refine bno (neF rfl) ?_
      ((try cbv) <;> (repeat ((with_reducible refine EW.of ?_); cbv)))
      refine bno (neF rfl) ?_
      ((try cbv) <;> (repeat ((with_reducible refine EW.of ?_); cbv)))
      refine LM.of (j + 1, a2, b2, c2) rfl ?_ ?_ ?_
      · rw [hS]; exact ⟨hjn, ha2⟩
      · rw [hS]; show ks.length - (j + 1) < ks.length - j; omega
      · rw [hS]; (cbv; (repeat (first | exact trivial | refine And.intro (Emb.Pur _ _) ?_ | refine And.intro rfl ?_ | refine And.intro (Pur.mk rfl) ?_ | refine And.intro (Pur.mk (by assumption)) ?_)); refine And.intro (inc_eq A (by omega)) ?_; (repeat (first | exact trivial | refine And.intro (Emb.Pur _ _) ?_ | refine And.intro rfl ?_ | refine And.intro (Pur.mk rfl) ?_ | refine And.intro (Pur.mk (by assumption)) ?_)))
    clear h
    cbv
    ((try cbv) <;> (repeat ((with_reducible refine EW.of ?_); cbv)))
    refine bsplit (fun h => ?_) (fun h => ?_)
    · clear h
      obtain ⟨v, a2, b2, hq⟩ : ∃ x y z, askR 0 bs a b (countR A bs a size most) = (x, y, z) := ⟨_, _, _, rfl⟩
      have k1 := Count32 A B hP bs hl a ha b size most v a2 b2 hq
      have k2 := Count33 A B hP bs hl a ha b c size most v a2 b2 hq
      obtain ⟨c2, hc2⟩ : ∃ c2, c2 = c := ⟨_, rfl⟩
      rw [← hc2] at k2
      subst hc2
      have ha2 := countR_pos hl ha hq
      unfold rdr at k1
      unfold rdrF at k2
      ((try cbv) <;> (repeat ((with_reducible refine EW.of ?_); cbv)))
      refine ⟨Ent.of (hP ▸ Try.func32) rfl, ?_⟩
      refine TC1.call [0] k1 ?_
      cbv
      (repeat (first | exact trivial | refine And.intro (Emb.Pur _ _) ?_ | refine And.intro rfl ?_ | refine And.intro (Pur.mk rfl) ?_))
      ((try cbv) <;> (repeat ((with_reducible refine EW.of ?_); cbv)))
      refine ⟨Ent.of (hP ▸ Try.func33) rfl, ?_⟩
      refine TC1.call [1] k2 ?_
      cbv
      (repeat (first | exact trivial | refine And.intro (Emb.Pur _ _) ?_ | refine And.intro rfl ?_ | refine And.intro (Pur.mk rfl) ?_))
      ((try cbv) <;> (repeat ((with_reducible refine EW.of ?_); cbv)))
      obtain ⟨x, y, hend⟩ : ∃ x y, endR bs a2 b2 = (x, y) := ⟨_, _, rfl⟩
      have h34 := End34 A B hP bs a2 b2 x y hend
      have h35 := End35 A B hP bs a2 b2 c2 x y hend
      unfold rdr at h34
      unfold rdrF at h35
      refine ⟨Ent.of (hP ▸ Try.func34) rfl, ?_⟩
      refine TC1.call [0] h34 ?_
      cbv
      (repeat (first | exact trivial | refine And.intro (Emb.Pur _ _) ?_ | refine And.intro rfl ?_ | refine And.intro (Pur.mk rfl) ?_))
      ((try cbv) <;> (repeat ((with_reducible refine EW.of ?_); cbv)))
      refine ⟨Ent.of (hP ▸ Try.func35) rfl, ?_⟩
      refine TC1.call [1] h35 ?_
      cbv
      (repeat (first | exact trivial | refine And.intro (Emb.Pur _ _) ?_ | refine And.intro rfl ?_ | refine And.intro (Pur.mk rfl) ?_))
      ((try cbv) <;> (repeat ((with_reducible refine EW.of ?_); cbv)))
      refine bno (notF (eqT rfl)) ?_
      ((try cbv) <;> (repeat ((with_reducible refine EW.of ?_); cbv)))
      refine bno (neF rfl) ?_
      ((try cbv) <;> (repeat ((with_reducible refine EW.of ?_); cbv)))
      refine bno (neF rfl) ?_
      ((try cbv) <;> (repeat ((with_reducible refine EW.of ?_); cbv)))
      refine LM.of (j + 1, a2, b2, c2) rfl ?_ ?_ ?_
      · rw [hS]; exact ⟨hjn, ha2⟩
      · rw [hS]; show ks.length - (j + 1) < ks.length - j; omega
      · rw [hS]; (cbv; (repeat (first | exact trivial | refine And.intro (Emb.Pur _ _) ?_ | refine And.intro rfl ?_ | refine And.intro (Pur.mk rfl) ?_ | refine And.intro (Pur.mk (by assumption)) ?_)); refine And.intro (inc_eq A (by omega)) ?_; (repeat (first | exact trivial | refine And.intro (Emb.Pur _ _) ?_ | refine And.intro rfl ?_ | refine And.intro (Pur.mk rfl) ?_ | refine And.intro (Pur.mk (by assumption)) ?_)))
    clear h
    cbv
    ((try cbv) <;> (repeat ((with_reducible refine EW.of ?_); cbv)))
    obtain ⟨a2, b2, c2, ea, eb, ec⟩ : ∃ a2 b2 c2, a2 = a ∧ b2 = b ∧ c2 = c := ⟨_, _, _, rfl, rfl, rfl⟩
    rw [← ea] at ha
    subst ea eb ec
    have ha2 := ha
    obtain ⟨x, y, hend⟩ : ∃ x y, endR bs a2 b2 = (x, y) := ⟨_, _, rfl⟩
    have h34 := End34 A B hP bs a2 b2 x y hend
    have h35 := End35 A B hP bs a2 b2 c2 x y hend
    unfold rdr at h34
    unfold rdrF at h35
    refine ⟨Ent.of (hP ▸ Try.func34) rfl, ?_⟩
    refine TC1.call [0] h34 ?_
    cbv
    (repeat (first | exact trivial | refine And.intro (Emb.Pur _ _) ?_ | refine And.intro rfl ?_ | refine And.intro (Pur.mk rfl) ?_))
    ((try cbv) <;> (repeat ((with_reducible refine EW.of ?_); cbv)))
    refine ⟨Ent.of (hP ▸ Try.func35) rfl, ?_⟩
    refine TC1.call [1] h35 ?_
    cbv
    (repeat (first | exact trivial | refine And.intro (Emb.Pur _ _) ?_ | refine And.intro rfl ?_ | refine And.intro (Pur.mk rfl) ?_))
    ((try cbv) <;> (repeat ((with_reducible refine EW.of ?_); cbv)))
    refine bno (neF rfl) ?_
    ((try cbv) <;> (repeat ((with_reducible refine EW.of ?_); cbv)))
    refine bno (neF rfl) ?_
    ((try cbv) <;> (repeat ((with_reducible refine EW.of ?_); cbv)))
    refine LM.of (j + 1, a2, b2, c2) rfl ?_ ?_ ?_
    · rw [hS]; exact ⟨hjn, ha2⟩
    · rw [hS]; show ks.length - (j + 1) < ks.length - j; omega
    · rw [hS]; (cbv; (repeat (first | exact trivial | refine And.intro (Emb.Pur _ _) ?_ | refine And.intro rfl ?_ | refine And.intro (Pur.mk rfl) ?_ | refine And.intro (Pur.mk (by assumption)) ?_)); refine And.intro (inc_eq A (by omega)) ?_; (repeat (first | exact trivial | refine And.intro (Emb.Pur _ _) ?_ | refine And.intro rfl ?_ | refine And.intro (Pur.mk rfl) ?_ | refine And.intro (Pur.mk (by assumption)) ?_)))
  · ((try cbv) <;> (repeat ((with_reducible refine EW.of ?_); cbv)))
    (refine ⟨Ent.of (hP ▸ Try.func9) rfl, ?_⟩; refine TC.pureE h9 ?_; cbv; (repeat (first | exact trivial | refine And.intro (Emb.Pur _ _) ?_ | refine And.intro rfl ?_ | refine And.intro (Pur.mk rfl) ?_ | refine And.intro (Pur.mk (by assumption)) ?_)); ((try cbv) <;> (repeat ((with_reducible refine EW.of ?_); cbv))))
end Go.Proofs.Ytmbbdabcbnemiaa
