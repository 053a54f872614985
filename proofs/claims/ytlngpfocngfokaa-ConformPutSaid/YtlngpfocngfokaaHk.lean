import Derived.Test.YtlngpfocngfokaaHj
/-! How much the statements go through; trees, by both. -/
namespace Go.Proofs.Ytlngpfocngfokaa
open Go.Proofs.Ytlngpfocngfokaa.Tw
def tsz : Tree × Nat → Nat
  | (.node _ _ s _, _) => s.size
def over3 : Nat → List (Tree × Nat) → Bool
  | _, [] => false
  | n, x :: l => decide (20000 < n + tsz x) || over3 (n + tsz x) l
def great3 (t : Tree) : Bool := over3 0 (walkT 251 t [] 1) || decide (250 < (walkT 251 t [] 1).length)
theorem over3_yes {n : Nat} {i k : Int} {s : ByteArray} {ks : List Tree} {d : Nat} {l : List (Tree × Nat)} (h : 20000 < n + s.size) : over3 n ((.node i k s ks, d) :: l) = true := by
  show (decide (20000 < n + s.size) || _) = true
  rw [decide_eq_true h, Bool.true_or]
theorem over3_no {n : Nat} {i k : Int} {s : ByteArray} {ks : List Tree} {d : Nat} {l : List (Tree × Nat)} (h : ¬ 20000 < n + s.size) : over3 n ((.node i k s ks, d) :: l) = over3 (n + s.size) l := by
  show (decide (20000 < n + s.size) || _) = _
  rw [decide_eq_false h, Bool.false_or]
  rfl
theorem lt_dec (A : Ar) {a b : Int} {i j : Nat} (ha : a = (i : Int)) (hb : b = (j : Int)) : A.lt a b = decide (i < j) := by
  subst ha hb
  rw [A.ok_lt]
  exact decide_eq_decide.2 Int.ofNat_lt
set_option maxHeartbeats 1000000 in
theorem Great24 (A : Ar) (E : Em) {P : Program} (hP : P = Try.prog) (t : Tree) (hok : t.ok) : TPure P 24 [E.tree.v t] (.bool (great3 t)) := by
  have h23 : TPure P 34 [t.av, .int .i64 251] (.sl 5 (spots (walkT 251 t [] 1))) := Walk23 A hP 251 (by decide) (by decide) t hok
  have hlen := (walkT_len 251 t [] 1).2 (Nat.zero_le _)
  unfold great3
  generalize walkT 251 t [] 1 = sp at h23 hlen ⊢
  rw [E.av, E.spots] at h23
  have hel := E.spot.len sp
  have hlk : A.len (E.spot.l sp) = (sp.length : Int) := by rw [A.ok_len, hel]
  obtain ⟨i0, k0, s0, ks0⟩ := t
  rw [E.node] at h23 ⊢
  obtain ⟨res, hres⟩ : ∃ b, b = (over3 0 sp || decide (250 < sp.length)) := ⟨_, rfl⟩
  rw [← hres]
  refine TPure.ofE A T0 (T0_ok hP) (hP ▸ Try.func24) rfl _ rfl (by simp) ?_
  cbv
  ((try cbv) <;> (repeat ((with_reducible refine EW.of ?_); cbv)))
  (refine ⟨Ent.of (hP ▸ Try.func34) rfl, ?_⟩; refine TC.pureE h23 ?_; cbv; (repeat (first | exact trivial | refine And.intro (Emb.Pur _ _) ?_ | refine And.intro rfl ?_ | refine And.intro (Pur.mk rfl) ?_ | refine And.intro (Pur.mk (by assumption)) ?_)); ((try cbv) <;> (repeat ((with_reducible refine EW.of ?_); cbv))))
  obtain ⟨S, hS⟩ : ∃ S : LI (Nat × Nat), S = ⟨fun x => [(10, .int .i64 x.1), (9, .int .i64 (A.len (E.spot.l sp))), (4, .int .i64 x.2), (3, .sl 5 (E.spot.l sp)), (2, .bool false)], fun x => [], fun x => x.1 ≤ sp.length ∧ x.2 ≤ 20000 ∧ over3 0 sp = over3 x.2 (sp.drop x.1), fun x => sp.length - x.1⟩ := ⟨_, rfl⟩
  refine TW.loopM A (T0_ok hP) S _ rfl (0, 0) ?_ ?_ ?_
  · rw [hS]; exact ⟨Nat.zero_le _, Nat.zero_le _, rfl⟩
  · rw [hS]
    cbv
    (repeat (first | exact trivial | refine And.intro (Emb.Pur _ _) ?_ | refine And.intro rfl ?_))
  rintro ⟨j, n⟩ hj l1 L1 e1 e2
  rw [hS] at hj e1 e2
  dsimp only at hj e1 e2
  obtain ⟨hj, hn, hov⟩ := hj
  subst e1 e2
  cbv
  ((try cbv) <;> (repeat ((with_reducible refine EW.of ?_); cbv)))
  refine bsplit (fun h => ?_) (fun h => ?_)
  · have h : j < sp.length := lt_nt h rfl hlk
    obtain ⟨⟨⟨i, k, s, ks⟩, d⟩, hx⟩ : ∃ x, sp[j]? = some x := ⟨_, List.getElem?_eq_getElem h⟩
    have hget := E.gets hx
    have hdr : sp.drop j = (.node i k s ks, d) :: sp.drop (j + 1) := by
      rw [List.drop_eq_getElem_cons h]
      rw [List.getElem?_eq_getElem h] at hx
      rw [Option.some.inj hx]
    rw [hdr] at hov
    have hsub : A.op .sub .i64 20000 (n : Int) = ((20000 - n : Nat) : Int) := by rw [sub_i64 rfl rfl (by omega) (by omega)]; omega
    ((try cbv) <;> (repeat ((with_reducible refine EW.of ?_); cbv)))
    refine ⟨j, _, rfl, hget, ?_⟩
    cbv
    ((try cbv) <;> (repeat ((with_reducible refine EW.of ?_); cbv)))
    refine bsplit (fun h2 => ?_) (fun h2 => ?_)
    · have h2 : 20000 - n < s.size := lt_nt h2 hsub (A.ok_slen s)
      ((try cbv) <;> (repeat ((with_reducible refine EW.of ?_); cbv)))
      rw [over3_yes (by omega)] at hov
      rw [hov, Bool.true_or] at hres
      exact And.intro hres.symm trivial
    · have h2 : s.size ≤ 20000 - n := lt_nf h2 hsub (A.ok_slen s)
      obtain ⟨n2, hn2⟩ : ∃ n2, n2 = n + s.size := ⟨_, rfl⟩
      have hadd : A.op .add .i64 (n : Int) (A.slen s) = (n2 : Int) := by rw [A.ok_slen, add_i64 rfl rfl (by omega) (by omega)]; omega
      rw [over3_no (by omega), ← hn2] at hov
      ((try cbv) <;> (repeat ((with_reducible refine EW.of ?_); cbv)))
      refine ⟨j, _, rfl, hget, ?_⟩
      cbv
      ((try cbv) <;> (repeat ((with_reducible refine EW.of ?_); cbv)))
      refine LM.of (j + 1, n2) rfl ?_ ?_ ?_
      · rw [hS]; exact ⟨by show j + 1 ≤ sp.length; omega, by show n2 ≤ 20000; omega, hov⟩
      · rw [hS]; show sp.length - (j + 1) < sp.length - j; omega
      · rw [hS]
        cbv
        (repeat (first | exact trivial | refine And.intro (Emb.Pur _ _) ?_ | refine And.intro hadd ?_ | refine And.intro (inc_eq A (by omega)) ?_ | refine And.intro rfl ?_))
  · have h : sp.length ≤ j := lt_nf h rfl hlk
    rw [List.drop_eq_nil_of_le h] at hov
    simp only [over3] at hov
    have hlt : A.lt 250 (A.len (E.spot.l sp)) = decide (250 < sp.length) := lt_dec A (i := 250) rfl hlk
    ((try cbv) <;> (repeat ((with_reducible refine EW.of ?_); cbv)))
    exact And.intro (by rw [hres, hov, Bool.false_or]; exact hlt) trivial
theorem ordK_mem {t : Tree} : ∀ {ts : List Tree} (d : Nat), t ∈ ts → (ordT t d).length ≤ (ordK ts d).length
  | [], d, h => by cases h
  | u :: ts, d, h => by
    rw [ordK, List.length_append]
    rcases List.mem_cons.1 h with rfl | h
    · omega
    · have := ordK_mem d h
      omega
theorem ordT_pos : ∀ (t : Tree) (d : Nat), 1 ≤ (ordT t d).length
  | .node _ _ _ _, d => by rw [ordT]; simp
theorem ordK_len : ∀ (ts : List Tree) (d : Nat), ts.length ≤ (ordK ts d).length
  | [], d => by simp
  | t :: ts, d => by
    have h1 := ordT_pos t d
    have h2 := ordK_len ts d
    rw [ordK, List.length_append, List.length_cons]
    omega
theorem low_ord : ∀ (n : Nat) (t : Tree) (d : Nat), n ≤ 1000000 → (ordT t d).length ≤ n → low n t
  | 0, t, d, _, h => by have := ordT_pos t d; omega
  | n + 1, .node i k s ks, d, hn, h => by
    rw [ordT, List.length_cons] at h
    have h2 := ordK_len ks (d + 1)
    exact ⟨by omega, fun t ht => low_ord n t (d + 1) (by omega) (by have := ordK_mem (d + 1) ht; omega)⟩
theorem low_kids {n : Nat} {t : Tree} (h : low n t) : kidsL t ≤ 1000000 := by
  obtain ⟨i, k, s, ks⟩ := t
  cases n with
  | zero => exact h.elim
  | succ n => exact h.1
theorem low_mono : ∀ {n : Nat} {t : Tree}, low n t → low (n + 1) t
  | 0, _, h => h.elim
  | n + 1, .node _ _ _ _, h => ⟨h.1, fun t ht => low_mono (h.2 t ht)⟩
mutual
theorem ord_low : ∀ (n : Nat) (t : Tree) (d : Nat), low n t → ∀ x ∈ ordT t d, low n x.1 ∧ x.2 ≤ d + n
  | 0, t, d, h => h.elim
  | n + 1, .node i k s ks, d, h => fun x hx => by
    rw [ordT] at hx
    rcases List.mem_cons.1 hx with rfl | hx
    · exact ⟨h, by show d ≤ d + (n + 1); omega⟩
    · have := ordK_low n ks (d + 1) h.2 x hx
      exact ⟨low_mono this.1, by omega⟩
theorem ordK_low : ∀ (n : Nat) (ts : List Tree) (d : Nat), (∀ t ∈ ts, low n t) → ∀ x ∈ ordK ts d, low n x.1 ∧ x.2 ≤ d + n
  | n, [], d, h => fun x hx => by cases hx
  | n, t :: ts, d, h => fun x hx => by
    rw [ordK] at hx
    rcases List.mem_append.1 hx with hx | hx
    · exact ord_low n t d (h t (by simp)) x hx
    · exact ordK_low n ts d (fun t ht => h t (by simp [ht])) x hx
end
theorem great3_ord {t : Tree} (h : great3 t = false) : (ordT t 1).length ≤ 250 := by
  unfold great3 at h
  rw [Bool.or_eq_false_iff] at h
  have h2 := of_decide_eq_false h.2
  rw [walkT_ord 251 t [] 1 (by simp)] at h2
  simp at h2
  omega
theorem great3_low {t : Tree} (h : great3 t = false) : low 250 t := low_ord 250 t 1 (by decide) (great3_ord h)
theorem low_walk {n : Nat} (hn : n ≤ 999999) {t : Tree} (h : low n t) : ∀ x ∈ walkT 201 t [] 1, kidsL x.1 ≤ 1000000 ∧ x.2 ≤ 1000000 := fun x hx => by
  rw [walkT_ord 201 t [] 1 (by simp)] at hx
  have := ord_low n t 1 h x (List.mem_of_mem_take (by simpa using hx))
  exact ⟨low_kids this.1, by omega⟩
def treeP (g : Gra) (t : Tree) : Int × Int := if checkB g = true ∧ kindT t ≠ g.root then (0, 70) else subP g t
set_option maxHeartbeats 1000000 in
theorem Tree26 (A : Ar) (E : Em) (G : EmG) (H : EmN) (R : EmR) (M : EmI) {P : Program} (hP : P = Try.prog) (g : Gra) (hg : g.ok) (n : Nat) (hn : n ≤ 999999) (t : Tree) (hl : low n t) : TPure P 26 [G.gv g, E.tree.v t] (.tup [.int .i64 (treeP g t).1, .int .i64 (treeP g t).2]) := by
  have k28 := Sub28 A E G H R M hP g hg n hn t hl
  have k14 := Check14 A E G H hP g hg
  rw [subR_subP] at k28
  have hY : checkB g = true ∧ kindT t ≠ g.root → (0, 70) = treeP g t := fun h => by unfold treeP; rw [if_pos h]
  have hN : ¬ (checkB g = true ∧ kindT t ≠ g.root) → subP g t = treeP g t := fun h => by unfold treeP; rw [if_neg h]
  obtain ⟨v1, v2, hv⟩ : ∃ v1 v2, (v1, v2) = treeP g t := ⟨_, _, rfl⟩
  rw [← hv] at hY hN ⊢
  obtain ⟨s1, s2, hs⟩ : ∃ s1 s2, (s1, s2) = subP g t := ⟨_, _, rfl⟩
  rw [← hs] at k28 hN
  obtain ⟨cb, hcb⟩ : ∃ b, b = checkB g := ⟨_, rfl⟩
  rw [← hcb] at k14 hY hN
  obtain ⟨i, k, s, ks⟩ := t
  obtain ⟨gk, root⟩ := g
  rw [E.node] at k28 ⊢
  unfold EmG.gv at k14 k28 ⊢
  dsimp only [kindT] at k14 k28 hY hN ⊢
  have p2 : Tw.Pur [.sl 3 (G.kind.l gk), .int .i64 root] := Pur.mk (by (repeat (first | exact rfl | exact Emb.purL _ _ | assumption | apply pur_cons | apply pur_sl | apply pur_slt | apply pur_agg | apply pur_tup)))
  have p3 : Tw.Pur [.int .i64 i, .int .i64 k, .str s, .sl 4 (E.tree.l ks)] := Pur.mk (by (repeat (first | exact rfl | exact Emb.purL _ _ | assumption | apply pur_cons | apply pur_sl | apply pur_slt | apply pur_agg | apply pur_tup)))
  refine TPure.ofE A T0 (T0_ok hP) (hP ▸ Try.func26) rfl _ rfl (by simp) ?_
  cbv
  ((try cbv) <;> (repeat ((with_reducible refine EW.of ?_); cbv)))
  cases cb with
  | false =>
    replace k14 : TPure P 14 [.agg [.sl 3 (G.kind.l gk), .int .i64 root]] (.int .i64 50) := k14
    (refine ⟨Ent.of (hP ▸ Try.func14) rfl, ?_⟩; refine TC.pureE k14 ?_; cbv; (repeat (first | exact trivial | refine And.intro (Emb.Pur _ _) ?_ | refine And.intro rfl ?_ | refine And.intro (Pur.mk rfl) ?_ | refine And.intro (Pur.mk (by assumption)) ?_)); ((try cbv) <;> (repeat ((with_reducible refine EW.of ?_); cbv))))
    refine bno (eqF (show (50 : Int) ≠ 0 by decide)) ?_
    cases hN (fun hc => by cases hc.1)
    ((try cbv) <;> (repeat ((with_reducible refine EW.of ?_); cbv)))
    (refine ⟨Ent.of (hP ▸ Try.func28) rfl, ?_⟩; refine TC.pureE k28 ?_; cbv; (repeat (first | exact trivial | refine And.intro (Emb.Pur _ _) ?_ | refine And.intro rfl ?_ | refine And.intro (Pur.mk rfl) ?_ | refine And.intro (Pur.mk (by assumption)) ?_)); ((try cbv) <;> (repeat ((with_reducible refine EW.of ?_); cbv))))
  | true =>
    replace k14 : TPure P 14 [.agg [.sl 3 (G.kind.l gk), .int .i64 root]] (.int .i64 0) := k14
    (refine ⟨Ent.of (hP ▸ Try.func14) rfl, ?_⟩; refine TC.pureE k14 ?_; cbv; (repeat (first | exact trivial | refine And.intro (Emb.Pur _ _) ?_ | refine And.intro rfl ?_ | refine And.intro (Pur.mk rfl) ?_ | refine And.intro (Pur.mk (by assumption)) ?_)); ((try cbv) <;> (repeat ((with_reducible refine EW.of ?_); cbv))))
    refine byes (eqT rfl) ?_
    ((try cbv) <;> (repeat ((with_reducible refine EW.of ?_); cbv)))
    refine bsplit (fun h => ?_) (fun h => ?_)
    · have h : k ≠ root := ne_t h rfl rfl
      cases hY ⟨rfl, h⟩
      ((try cbv) <;> (repeat ((with_reducible refine EW.of ?_); cbv)))
    · have h : k = root := ne_f h rfl rfl
      cases hN (fun hc => hc.2 h)
      ((try cbv) <;> (repeat ((with_reducible refine EW.of ?_); cbv)))
      (refine ⟨Ent.of (hP ▸ Try.func28) rfl, ?_⟩; refine TC.pureE k28 ?_; cbv; (repeat (first | exact trivial | refine And.intro (Emb.Pur _ _) ?_ | refine And.intro rfl ?_ | refine And.intro (Pur.mk rfl) ?_ | refine And.intro (Pur.mk (by assumption)) ?_)); ((try cbv) <;> (repeat ((with_reducible refine EW.of ?_); cbv))))
set_option maxHeartbeats 1000000 in
theorem Tree27 (A : Ar) (E : Em) (G : EmG) (R : EmR) {P : Program} (hP : P = Try.prog) (g : Gra) (hg : g.ok) (n : Nat) (hn : n ≤ 999999) (t : Tree) (hok : t.ok) (hl : low n t) : TPure P 27 [G.gv g, E.tree.v t] (.tup [.int .i64 (treeP g t).1, .int .i64 (treeP g t).2]) := by
  have k29 := Sub29 A E G R hP g hg t hok (low_walk hn hl)
  have k18 := Check18 A E G hP g hg
  have h23 : TPure P 34 [t.av, .int .i64 201] (.sl 5 (spots (walkT 201 t [] 1))) := Walk23 A hP 201 (by decide) (by decide) t hok
  have h1 : checkB g = false → (0, 50) = treeP g t := fun h => by unfold treeP subP; rw [if_neg (fun hc => by rw [h] at hc; cases hc.1), if_pos h]
  have h2 : checkB g = true → 200 < (walkT 201 t [] 1).length ∨ kindT t ≠ g.root → (0, 70) = treeP g t := fun h hc => by
    unfold treeP subP
    by_cases hk : kindT t = g.root
    · have hc : 200 < (walkT 201 t [] 1).length := hc.resolve_right (fun h => h hk)
      rw [walkT_ord 201 t [] 1 (by simp)] at hc
      simp at hc
      rw [if_neg (fun hc => hc.2 hk), if_neg (by rw [h]; decide), if_pos (by omega)]
    · rw [if_pos ⟨h, hk⟩]
  have h3 : checkB g = true → kindT t = g.root → subP g t = treeP g t := fun h hk => by unfold treeP; rw [if_neg (fun hc => hc.2 hk)]
  obtain ⟨v1, v2, hv⟩ : ∃ v1 v2, (v1, v2) = treeP g t := ⟨_, _, rfl⟩
  rw [← hv] at h1 h2 h3 ⊢
  obtain ⟨s1, s2, hs⟩ : ∃ s1 s2, (s1, s2) = subP g t := ⟨_, _, rfl⟩
  rw [← hs] at k29 h3
  obtain ⟨cb, hcb⟩ : ∃ b, b = checkB g := ⟨_, rfl⟩
  rw [← hcb] at k18 h1 h2 h3
  obtain ⟨sp, hsp⟩ : ∃ sp, sp = walkT 201 t [] 1 := ⟨_, rfl⟩
  rw [← hsp] at h23 h2
  have hlk : A.len (E.spot.l sp) = (sp.length : Int) := by rw [A.ok_len, E.spot.len sp]
  rw [E.av, E.spots] at h23
  obtain ⟨i, k, s, ks⟩ := t
  obtain ⟨gk, root⟩ := g
  rw [E.node] at h23 k29 ⊢
  unfold EmG.gv at k18 k29 ⊢
  dsimp only [kindT] at k18 k29 h1 h2 h3 ⊢
  have p2 : Tw.Pur [.sl 3 (G.kind.l gk), .int .i64 root] := Pur.mk (by (repeat (first | exact rfl | exact Emb.purL _ _ | assumption | apply pur_cons | apply pur_sl | apply pur_slt | apply pur_agg | apply pur_tup)))
  have p3 : Tw.Pur [.int .i64 i, .int .i64 k, .str s, .sl 4 (E.tree.l ks)] := Pur.mk (by (repeat (first | exact rfl | exact Emb.purL _ _ | assumption | apply pur_cons | apply pur_sl | apply pur_slt | apply pur_agg | apply pur_tup)))
  refine TPure.ofE A T0 (T0_ok hP) (hP ▸ Try.func27) rfl _ rfl (by simp) ?_
  cbv
  ((try cbv) <;> (repeat ((with_reducible refine EW.of ?_); cbv)))
  cases cb with
  | false =>
    replace k18 : TPure P 18 [.agg [.sl 3 (G.kind.l gk), .int .i64 root]] (.int .i64 50) := k18
    (refine ⟨Ent.of (hP ▸ Try.func18) rfl, ?_⟩; refine TC.pureE k18 ?_; cbv; (repeat (first | exact trivial | refine And.intro (Emb.Pur _ _) ?_ | refine And.intro rfl ?_ | refine And.intro (Pur.mk rfl) ?_ | refine And.intro (Pur.mk (by assumption)) ?_)); ((try cbv) <;> (repeat ((with_reducible refine EW.of ?_); cbv))))
    refine byes (neT (show (50 : Int) ≠ 0 by decide)) ?_
    cases h1 rfl
    ((try cbv) <;> (repeat ((with_reducible refine EW.of ?_); cbv)))
  | true =>
    replace k18 : TPure P 18 [.agg [.sl 3 (G.kind.l gk), .int .i64 root]] (.int .i64 0) := k18
    (refine ⟨Ent.of (hP ▸ Try.func18) rfl, ?_⟩; refine TC.pureE k18 ?_; cbv; (repeat (first | exact trivial | refine And.intro (Emb.Pur _ _) ?_ | refine And.intro rfl ?_ | refine And.intro (Pur.mk rfl) ?_ | refine And.intro (Pur.mk (by assumption)) ?_)); ((try cbv) <;> (repeat ((with_reducible refine EW.of ?_); cbv))))
    refine bno (neF rfl) ?_
    ((try cbv) <;> (repeat ((with_reducible refine EW.of ?_); cbv)))
    (refine ⟨Ent.of (hP ▸ Try.func34) rfl, ?_⟩; refine TC.pureE h23 ?_; cbv; (repeat (first | exact trivial | refine And.intro (Emb.Pur _ _) ?_ | refine And.intro rfl ?_ | refine And.intro (Pur.mk rfl) ?_ | refine And.intro (Pur.mk (by assumption)) ?_)); ((try cbv) <;> (repeat ((with_reducible refine EW.of ?_); cbv))))
    refine bsplit (fun h => ?_) (fun h => ?_)
    · have h : 200 < sp.length := lt_nt (i := 200) h rfl hlk
      cases h2 rfl (.inl h)
      ((try cbv) <;> (repeat ((with_reducible refine EW.of ?_); cbv)))
    ((try cbv) <;> (repeat ((with_reducible refine EW.of ?_); cbv)))
    refine bsplit (fun h => ?_) (fun h => ?_)
    · have h : k ≠ root := ne_t h rfl rfl
      cases h2 rfl (.inr h)
      ((try cbv) <;> (repeat ((with_reducible refine EW.of ?_); cbv)))
    · have h : k = root := ne_f h rfl rfl
      cases h3 rfl h
      ((try cbv) <;> (repeat ((with_reducible refine EW.of ?_); cbv)))
      (refine ⟨Ent.of (hP ▸ Try.func29) rfl, ?_⟩; refine TC.pureE k29 ?_; cbv; (repeat (first | exact trivial | refine And.intro (Emb.Pur _ _) ?_ | refine And.intro rfl ?_ | refine And.intro (Pur.mk rfl) ?_ | refine And.intro (Pur.mk (by assumption)) ?_)); ((try cbv) <;> (repeat ((with_reducible refine EW.of ?_); cbv))))
end Go.Proofs.Ytlngpfocngfokaa
