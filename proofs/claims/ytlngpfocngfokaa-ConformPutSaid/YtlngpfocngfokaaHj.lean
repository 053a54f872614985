import Derived.Test.YtlngpfocngfokaaHi
/-! Does a subtree conform, by the reference? -/
namespace Go.Proofs.Ytlngpfocngfokaa
open Go.Proofs.Ytlngpfocngfokaa.Tw
def idsL (l : List (Tree × Nat)) : List Int := l.map fun x => idT x.1
theorem firstBad_drop {g : Gra} {ids : List Int} {i j : Nat} {l : List (Tree × Nat)} {t : Tree} {d : Nat} (h : l[j]? = some (t, d)) : firstBad g ids i (l.drop j) = if badN g ids t d then some i else firstBad g (ids ++ [idT t]) (i + 1) (l.drop (j + 1)) := by
  rw [List.drop_eq_getElem?_toList_append, h]
  rfl
theorem idsL_take {l : List (Tree × Nat)} {j : Nat} {t : Tree} {d : Nat} (h : l[j]? = some (t, d)) : idsL (l.take (j + 1)) = idsL (l.take j) ++ [idT t] := by
  unfold idsL
  rw [List.take_add_one, h]
  simp
set_option maxRecDepth 100000 in
set_option maxHeartbeats 4000000 in
theorem Sub29 (A : Ar) (E : Em) (G : EmG) (R : EmR) {P : Program} (hP : P = Try.prog) (g : Gra) (hg : g.ok) (t : Tree) (hok : t.ok) (hkids : ∀ x ∈ walkT 201 t [] 1, kidsL x.1 ≤ 1000000 ∧ x.2 ≤ 1000000) : TPure P 29 [G.gv g, E.tree.v t] (.tup [.int .i64 (subP g t).1, .int .i64 (subP g t).2]) := by
  have h23 : TPure P 34 [t.av, .int .i64 201] (.sl 5 (spots (walkT 201 t [] 1))) := Walk23 A hP 201 (by decide) (by decide) t hok
  have k18 := Check18 A E G hP g hg
  have k31 := fun t hl => Node31 A E G R hP g hg t hl
  obtain ⟨v1, v2, hv⟩ : ∃ v1 v2, (v1, v2) = subP g t := ⟨_, _, rfl⟩
  rw [← hv]
  unfold subP at hv
  have hw := walkT_ord 201 t [] 1 (by simp)
  rw [List.nil_append, List.length_nil] at hw
  obtain ⟨sp, hsp⟩ : ∃ sp, sp = walkT 201 t [] 1 := ⟨_, rfl⟩
  rw [← hsp] at h23 hw hkids
  have hlong : (200 < (ordT t 1).length) = (200 < sp.length) := by
    rw [hw, List.length_take]
    simp only [eq_iff_iff]
    omega
  have hshort : ¬ 200 < sp.length → ordT t 1 = sp := fun h => by
    rw [hw, List.length_take] at h
    rw [hw, List.take_of_length_le (by omega)]
  simp only [hlong] at hv
  generalize ordT t 1 = oo at hshort hv
  obtain ⟨cb, hcb⟩ : ∃ b, b = checkB g := ⟨_, rfl⟩
  rw [← hcb] at k18 hv
  have hll := E.spot.len sp
  have hlk : A.len (E.spot.l sp) = (sp.length : Int) := by rw [A.ok_len, hll]
  rw [E.av, E.spots] at h23
  obtain ⟨gg, hgg⟩ : ∃ gg, gg = g := ⟨_, rfl⟩
  rw [← hgg] at hv
  obtain ⟨i, k, s, ks⟩ := t
  obtain ⟨gk, root⟩ := g
  rw [E.node] at h23 ⊢
  unfold EmG.gv at k18 k31 ⊢
  dsimp only at k18 k31 ⊢
  have p2 : Tw.Pur [.sl 3 (G.kind.l gk), .int .i64 root] := Pur.mk (by (repeat (first | exact rfl | exact Emb.purL _ _ | assumption | apply pur_cons | apply pur_sl | apply pur_slt | apply pur_agg | apply pur_tup)))
  have p3 : Tw.Pur [.int .i64 i, .int .i64 k, .str s, .sl 4 (E.tree.l ks)] := Pur.mk (by (repeat (first | exact rfl | exact Emb.purL _ _ | assumption | apply pur_cons | apply pur_sl | apply pur_slt | apply pur_agg | apply pur_tup)))
  refine TPure.ofE A T0 (T0_ok hP) (hP ▸ Try.func29) rfl _ rfl (by simp) ?_
  cbv
  refine EW.vs [(2, .imm [.sl 3 (G.kind.l gk), .int .i64 root]), (3, .imm [.int .i64 i, .int .i64 k, .str s, .sl 4 (E.tree.l ks)]), (4, .int .i64 0), (5, .int .i64 0)] [] 71 rfl ?_
  cbv
  (repeat (first | exact trivial | refine And.intro p2 ?_ | refine And.intro p3 ?_ | refine And.intro (Emb.Pur _ _) ?_ | refine And.intro rfl ?_ | refine And.intro (Pur.mk rfl) ?_))
  ((try cbv) <;> (repeat ((with_reducible refine EW.of ?_); cbv)))
  cases cb with
  | false =>
    replace k18 : TPure P 18 [.agg [.sl 3 (G.kind.l gk), .int .i64 root]] (.int .i64 50) := k18
    (refine ⟨Ent.of (hP ▸ Try.func18) rfl, ?_⟩; refine TC.pureE k18 ?_; cbv; (repeat (first | exact trivial | refine And.intro (Emb.Pur _ _) ?_ | refine And.intro rfl ?_ | refine And.intro (Pur.mk rfl) ?_ | refine And.intro (Pur.mk (by assumption)) ?_)); ((try cbv) <;> (repeat ((with_reducible refine EW.of ?_); cbv))))
    refine byes (neT (show (50 : Int) ≠ 0 by decide)) ?_
    cases hv
    ((try cbv) <;> (repeat ((with_reducible refine EW.of ?_); cbv)))
  | true =>
    replace k18 : TPure P 18 [.agg [.sl 3 (G.kind.l gk), .int .i64 root]] (.int .i64 0) := k18
    (refine ⟨Ent.of (hP ▸ Try.func18) rfl, ?_⟩; refine TC.pureE k18 ?_; cbv; (repeat (first | exact trivial | refine And.intro (Emb.Pur _ _) ?_ | refine And.intro rfl ?_ | refine And.intro (Pur.mk rfl) ?_ | refine And.intro (Pur.mk (by assumption)) ?_)); ((try cbv) <;> (repeat ((with_reducible refine EW.of ?_); cbv))))
    refine bno (neF rfl) ?_
    ((try cbv) <;> (repeat ((with_reducible refine EW.of ?_); cbv)))
    (refine ⟨Ent.of (hP ▸ Try.func34) rfl, ?_⟩; refine TC.pureE h23 ?_; cbv; (repeat (first | exact trivial | refine And.intro (Emb.Pur _ _) ?_ | refine And.intro rfl ?_ | refine And.intro (Pur.mk rfl) ?_ | refine And.intro (Pur.mk (by assumption)) ?_)); ((try cbv) <;> (repeat ((with_reducible refine EW.of ?_); cbv))))
    refine bsplit (fun h => ?_) (fun h => ?_)
    · have h : 200 < sp.length := lt_nt (i := 200) h rfl hlk
      replace hv : (v1, v2) = if 200 < sp.length then (0, 70) else _ := hv
      rw [if_pos h] at hv
      cases hv
      ((try cbv) <;> (repeat ((with_reducible refine EW.of ?_); cbv)))
    have h : ¬ 200 < sp.length := Nat.not_lt.2 (lt_nf (i := 200) h rfl hlk)
    replace hv : (v1, v2) = if 200 < sp.length then (0, 70) else _ := hv
    rw [if_neg h, hshort h] at hv
    ((try cbv) <;> (repeat ((with_reducible refine EW.of ?_); cbv)))
    obtain ⟨R1, hR1⟩ : ∃ r, r = firstBad gg [] 0 sp := ⟨_, rfl⟩
    rw [← hR1] at hv
    obtain ⟨S, hS⟩ : ∃ S : LI Nat, S = ⟨fun j => [(7, .int .i64 j), (6, .sl 5 (E.spot.l sp)), (2, .imm [.sl 3 (G.kind.l gk), .int .i64 root]), (4, .int .i64 0), (5, .int .i64 0)], fun _ => [], fun j => j ≤ sp.length ∧ R1 = firstBad gg (idsL (sp.take j)) j (sp.drop j), fun j => sp.length - j⟩ := ⟨_, rfl⟩
    refine TW.loopM A (T0_ok hP) S _ rfl 0 ?_ ?_ ?_
    · rw [hS]; exact ⟨Nat.zero_le _, hR1⟩
    · rw [hS]
      cbv
      (repeat (first | exact trivial | refine And.intro p2 ?_ | refine And.intro p3 ?_ | refine And.intro p4 ?_ | refine And.intro hfb.symm ?_ | refine And.intro heq3 ?_ | refine And.intro (Emb.Pur _ _) ?_ | refine And.intro (inc_eq A (by omega)) ?_ | refine And.intro rfl ?_ | refine And.intro (Pur.mk rfl) ?_))
    intro j hj l1 L1 e1 e2; rw [hS] at hj e1 e2; dsimp only at hj e1 e2; obtain ⟨hj, hinv⟩ := hj; subst e1 e2
    cbv
    ((try cbv) <;> (repeat ((with_reducible refine EW.of ?_); cbv)))
    refine bsplit (fun h1 => ?_) (fun h1 => ?_)
    · have h1 : j < sp.length := lt_nt h1 rfl hlk
      obtain ⟨⟨t', d'⟩, hx⟩ : ∃ x, sp[j]? = some x := ⟨_, List.getElem?_eq_getElem h1⟩
      rw [firstBad_drop hx] at hinv
      have hki := hkids _ (List.mem_of_getElem? hx)
      have k31 := k31 t' hki.1
      have htk := idsL_take hx
      obtain ⟨ids, hids⟩ : ∃ l, l = idsL (sp.take j) := ⟨_, rfl⟩
      rw [← hids] at hinv htk
      have hidl : ids.length = j := by rw [hids]; unfold idsL; rw [List.length_map, List.length_take]; omega
      obtain ⟨nb, hnb⟩ : ∃ b, b = nodeB ⟨gk, root⟩ t' := ⟨_, rfl⟩
      rw [← hnb] at k31
      obtain ⟨i', k', s', ks'⟩ := t'
      have hgx := E.gets hx
      rw [E.node] at k31
      ((try cbv) <;> (repeat ((with_reducible refine EW.of ?_); cbv)))
      (refine ⟨_, _, rfl, hgx, ?_⟩; cbv; ((try cbv) <;> (repeat ((with_reducible refine EW.of ?_); cbv))))
      have p4 : Tw.Pur [.int .i64 i', .int .i64 k', .str s', .sl 4 (E.tree.l ks')] := Pur.mk (by (repeat (first | exact rfl | exact Emb.purL _ _ | assumption | apply pur_cons | apply pur_sl | apply pur_slt | apply pur_agg | apply pur_tup)))
      (refine ⟨_, _, rfl, hgx, ?_⟩; cbv; ((try cbv) <;> (repeat ((with_reducible refine EW.of ?_); cbv))))
      by_cases c1 : 32 < d'
      · have hbd : badN gg ids (.node i' k' s' ks') d' ↔ (true = true ∨ i' ∈ ids) := ⟨fun _ => .inl rfl, fun _ => .inl c1⟩
        obtain ⟨fb, hfb⟩ : ∃ b, b = true := ⟨_, rfl⟩
        refine byes (ltT (Int.ofNat_lt.2 c1)) ?_
        ((try cbv) <;> (repeat ((with_reducible refine EW.of ?_); cbv)))
        have hbd : badN gg ids (.node i' k' s' ks') d' ↔ (fb = true ∨ i' ∈ ids) := by rw [hfb]; exact hbd
        refine TW.vsE [(10, .int .i64 0), (9, .bool fb), (8, .imm [.int .i64 i', .int .i64 k', .str s', .sl 4 (E.tree.l ks')]), (7, .int .i64 j), (6, .sl 5 (E.spot.l sp)), (2, .imm [.sl 3 (G.kind.l gk), .int .i64 root]), (4, .int .i64 0), (5, .int .i64 0)] [] 71 rfl ?_
        cbv
        (repeat (first | exact trivial | refine And.intro p2 ?_ | refine And.intro p3 ?_ | refine And.intro p4 ?_ | refine And.intro hfb.symm ?_ | refine And.intro heq3 ?_ | refine And.intro (Emb.Pur _ _) ?_ | refine And.intro (inc_eq A (by omega)) ?_ | refine And.intro rfl ?_ | refine And.intro (Pur.mk rfl) ?_))
        obtain ⟨S2, hS2⟩ : ∃ S : LI (Nat × Bool), S = ⟨fun x => [(10, .int .i64 x.1), (9, .bool x.2), (8, .imm [.int .i64 i', .int .i64 k', .str s', .sl 4 (E.tree.l ks')]), (7, .int .i64 j), (6, .sl 5 (E.spot.l sp)), (2, .imm [.sl 3 (G.kind.l gk), .int .i64 root]), (4, .int .i64 0), (5, .int .i64 0)], fun _ => [], fun x => x.1 ≤ j ∧ x.2 = (fb || (ids.take x.1).any fun m => decide (m = i')), fun x => j - x.1⟩ := ⟨_, rfl⟩
        refine TW.loopM A (T0_ok hP) S2 _ rfl (0, fb) ?_ ?_ ?_
        · rw [hS2]; exact ⟨Nat.zero_le _, by simp⟩
        · rw [hS2]
          cbv
          (repeat (first | exact trivial | refine And.intro p2 ?_ | refine And.intro p3 ?_ | refine And.intro p4 ?_ | refine And.intro hfb.symm ?_ | refine And.intro heq3 ?_ | refine And.intro (Emb.Pur _ _) ?_ | refine And.intro (inc_eq A (by omega)) ?_ | refine And.intro rfl ?_ | refine And.intro (Pur.mk rfl) ?_))
        rintro ⟨j2, b⟩ hi l2 L2 e1 e2
        rw [hS2] at hi e1 e2
        dsimp only at hi e1 e2
        obtain ⟨hi, hb2⟩ := hi
        subst e1 e2
        cbv
        ((try cbv) <;> (repeat ((with_reducible refine EW.of ?_); cbv)))
        refine bsplit (fun h5 => ?_) (fun h5 => ?_)
        · have h5 : j2 < j := lt_nt h5 rfl rfl
          obtain ⟨⟨t3, d3⟩, hx3⟩ : ∃ x, sp[j2]? = some x := ⟨_, List.getElem?_eq_getElem (by omega)⟩
          have hid3 : ids[j2]? = some (idT t3) := by rw [hids]; unfold idsL; rw [List.getElem?_map, List.getElem?_take, if_pos h5, hx3]; rfl
          have htk3 : ids.take (j2 + 1) = ids.take j2 ++ [idT t3] := by rw [List.take_add_one, hid3]; rfl
          obtain ⟨i3, k3, s3, ks3⟩ := t3
          have hgx3 := E.gets hx3
          cases b with
          | true =>
            ((try cbv) <;> (repeat ((with_reducible refine EW.of ?_); cbv)))
            (refine TW.draw (A := A) (T0_ok hP) (hP ▸ follows_mixed) (by kernel_rfl) rfl ?_; cbv)
            ((try cbv) <;> (repeat ((with_reducible refine EW.of ?_); cbv)))
            refine LM.of (j2 + 1, true) rfl ?_ ?_ ?_
            · rw [hS2]; exact ⟨h5, by show true = (fb || (ids.take (j2 + 1)).any _); rw [htk3, List.any_append, ← Bool.or_assoc, ← hb2]; rfl⟩
            · rw [hS2]; show j - (j2 + 1) < j - j2; omega
            · rw [hS2]
              cbv
              (repeat (first | exact trivial | refine And.intro p2 ?_ | refine And.intro p3 ?_ | refine And.intro p4 ?_ | refine And.intro hfb.symm ?_ | refine And.intro heq3 ?_ | refine And.intro (Emb.Pur _ _) ?_ | refine And.intro (inc_eq A (by omega)) ?_ | refine And.intro rfl ?_ | refine And.intro (Pur.mk rfl) ?_))
          | false =>
            obtain ⟨b3, hb3⟩ : ∃ b, b = decide (i3 = i') := ⟨_, rfl⟩
            have heq3 : A.eq i3 i' = b3 := by rw [A.ok_eq, hb3]
            ((try cbv) <;> (repeat ((with_reducible refine EW.of ?_); cbv)))
            (refine TW.draw (A := A) (T0_ok hP) (hP ▸ follows_mixed) (by kernel_rfl) rfl ?_; cbv)
            refine ⟨j2, _, rfl, hgx3, ?_⟩
            cbv
            ((try cbv) <;> (repeat ((with_reducible refine EW.of ?_); cbv)))
            refine LM.of (j2 + 1, b3) rfl ?_ ?_ ?_
            · rw [hS2]; exact ⟨h5, by show b3 = (fb || (ids.take (j2 + 1)).any _); rw [htk3, List.any_append, ← Bool.or_assoc, ← hb2, hb3]; simp [idT]⟩
            · rw [hS2]; show j - (j2 + 1) < j - j2; omega
            · rw [hS2]
              cbv
              (repeat (first | exact trivial | refine And.intro p2 ?_ | refine And.intro p3 ?_ | refine And.intro p4 ?_ | refine And.intro hfb.symm ?_ | refine And.intro heq3 ?_ | refine And.intro (Emb.Pur _ _) ?_ | refine And.intro (inc_eq A (by omega)) ?_ | refine And.intro rfl ?_ | refine And.intro (Pur.mk rfl) ?_))
        · have h5 : j ≤ j2 := lt_nf h5 rfl rfl
          rw [List.take_of_length_le (by omega)] at hb2
          have hmem : (ids.any fun m => decide (m = i')) = true ↔ i' ∈ ids := by simp
          cases b with
          | true =>
            have hbad : badN gg ids (.node i' k' s' ks') d' := hbd.2 (by
              have := hb2.symm
              rw [Bool.or_eq_true] at this
              exact this.imp id hmem.1)
            rw [if_pos hbad] at hinv
            rw [hinv] at hv
            cases hv
            ((try cbv) <;> (repeat ((with_reducible refine EW.of ?_); cbv)))
          | false =>
            have hbad : ¬ badN gg ids (.node i' k' s' ks') d' := fun hh => by
              have := hbd.1 hh
              rw [← hmem, ← Bool.or_eq_true, ← hb2] at this
              cases this
            rw [if_neg hbad] at hinv
            ((try cbv) <;> (repeat ((with_reducible refine EW.of ?_); cbv)))
            refine LM.of (j + 1) rfl ?_ ?_ ?_
            · rw [hS]; exact ⟨h1, by rw [htk]; exact hinv⟩
            · rw [hS]; show sp.length - (j + 1) < sp.length - j; omega
            · rw [hS]
              cbv
              (repeat (first | exact trivial | refine And.intro p2 ?_ | refine And.intro p3 ?_ | refine And.intro p4 ?_ | refine And.intro hfb.symm ?_ | refine And.intro heq3 ?_ | refine And.intro (Emb.Pur _ _) ?_ | refine And.intro (inc_eq A (by omega)) ?_ | refine And.intro rfl ?_ | refine And.intro (Pur.mk rfl) ?_))
      refine bno (ltF (Int.ofNat_le.2 (Nat.not_lt.1 c1))) ?_
      ((try cbv) <;> (repeat ((with_reducible refine EW.of ?_); cbv)))
      by_cases c2 : i' < 1
      · have hbd : badN gg ids (.node i' k' s' ks') d' ↔ (true = true ∨ i' ∈ ids) := ⟨fun _ => .inl rfl, fun _ => .inr (.inl c2)⟩
        obtain ⟨fb, hfb⟩ : ∃ b, b = true := ⟨_, rfl⟩
        refine byes (ltT c2) ?_
        ((try cbv) <;> (repeat ((with_reducible refine EW.of ?_); cbv)))
        have hbd : badN gg ids (.node i' k' s' ks') d' ↔ (fb = true ∨ i' ∈ ids) := by rw [hfb]; exact hbd
        refine TW.vsE [(10, .int .i64 0), (9, .bool fb), (8, .imm [.int .i64 i', .int .i64 k', .str s', .sl 4 (E.tree.l ks')]), (7, .int .i64 j), (6, .sl 5 (E.spot.l sp)), (2, .imm [.sl 3 (G.kind.l gk), .int .i64 root]), (4, .int .i64 0), (5, .int .i64 0)] [] 71 rfl ?_
        cbv
        (repeat (first | exact trivial | refine And.intro p2 ?_ | refine And.intro p3 ?_ | refine And.intro p4 ?_ | refine And.intro hfb.symm ?_ | refine And.intro heq3 ?_ | refine And.intro (Emb.Pur _ _) ?_ | refine And.intro (inc_eq A (by omega)) ?_ | refine And.intro rfl ?_ | refine And.intro (Pur.mk rfl) ?_))
        obtain ⟨S2, hS2⟩ : ∃ S : LI (Nat × Bool), S = ⟨fun x => [(10, .int .i64 x.1), (9, .bool x.2), (8, .imm [.int .i64 i', .int .i64 k', .str s', .sl 4 (E.tree.l ks')]), (7, .int .i64 j), (6, .sl 5 (E.spot.l sp)), (2, .imm [.sl 3 (G.kind.l gk), .int .i64 root]), (4, .int .i64 0), (5, .int .i64 0)], fun _ => [], fun x => x.1 ≤ j ∧ x.2 = (fb || (ids.take x.1).any fun m => decide (m = i')), fun x => j - x.1⟩ := ⟨_, rfl⟩
        refine TW.loopM A (T0_ok hP) S2 _ rfl (0, fb) ?_ ?_ ?_
        · rw [hS2]; exact ⟨Nat.zero_le _, by simp⟩
        · rw [hS2]
          cbv
          (repeat (first | exact trivial | refine And.intro p2 ?_ | refine And.intro p3 ?_ | refine And.intro p4 ?_ | refine And.intro hfb.symm ?_ | refine And.intro heq3 ?_ | refine And.intro (Emb.Pur _ _) ?_ | refine And.intro (inc_eq A (by omega)) ?_ | refine And.intro rfl ?_ | refine And.intro (Pur.mk rfl) ?_))
        rintro ⟨j2, b⟩ hi l2 L2 e1 e2
        rw [hS2] at hi e1 e2
        dsimp only at hi e1 e2
        obtain ⟨hi, hb2⟩ := hi
        subst e1 e2
        cbv
        ((try cbv) <;> (repeat ((with_reducible refine EW.of ?_); cbv)))
        refine bsplit (fun h5 => ?_) (fun h5 => ?_)
        · have h5 : j2 < j := lt_nt h5 rfl rfl
          obtain ⟨⟨t3, d3⟩, hx3⟩ : ∃ x, sp[j2]? = some x := ⟨_, List.getElem?_eq_getElem (by omega)⟩
          have hid3 : ids[j2]? = some (idT t3) := by rw [hids]; unfold idsL; rw [List.getElem?_map, List.getElem?_take, if_pos h5, hx3]; rfl
          have htk3 : ids.take (j2 + 1) = ids.take j2 ++ [idT t3] := by rw [List.take_add_one, hid3]; rfl
          obtain ⟨i3, k3, s3, ks3⟩ := t3
          have hgx3 := E.gets hx3
          cases b with
          | true =>
            ((try cbv) <;> (repeat ((with_reducible refine EW.of ?_); cbv)))
            (refine TW.draw (A := A) (T0_ok hP) (hP ▸ follows_mixed) (by kernel_rfl) rfl ?_; cbv)
            ((try cbv) <;> (repeat ((with_reducible refine EW.of ?_); cbv)))
            refine LM.of (j2 + 1, true) rfl ?_ ?_ ?_
            · rw [hS2]; exact ⟨h5, by show true = (fb || (ids.take (j2 + 1)).any _); rw [htk3, List.any_append, ← Bool.or_assoc, ← hb2]; rfl⟩
            · rw [hS2]; show j - (j2 + 1) < j - j2; omega
            · rw [hS2]
              cbv
              (repeat (first | exact trivial | refine And.intro p2 ?_ | refine And.intro p3 ?_ | refine And.intro p4 ?_ | refine And.intro hfb.symm ?_ | refine And.intro heq3 ?_ | refine And.intro (Emb.Pur _ _) ?_ | refine And.intro (inc_eq A (by omega)) ?_ | refine And.intro rfl ?_ | refine And.intro (Pur.mk rfl) ?_))
          | false =>
            obtain ⟨b3, hb3⟩ : ∃ b, b = decide (i3 = i') := ⟨_, rfl⟩
            have heq3 : A.eq i3 i' = b3 := by rw [A.ok_eq, hb3]
            ((try cbv) <;> (repeat ((with_reducible refine EW.of ?_); cbv)))
            (refine TW.draw (A := A) (T0_ok hP) (hP ▸ follows_mixed) (by kernel_rfl) rfl ?_; cbv)
            refine ⟨j2, _, rfl, hgx3, ?_⟩
            cbv
            ((try cbv) <;> (repeat ((with_reducible refine EW.of ?_); cbv)))
            refine LM.of (j2 + 1, b3) rfl ?_ ?_ ?_
            · rw [hS2]; exact ⟨h5, by show b3 = (fb || (ids.take (j2 + 1)).any _); rw [htk3, List.any_append, ← Bool.or_assoc, ← hb2, hb3]; simp [idT]⟩
            · rw [hS2]; show j - (j2 + 1) < j - j2; omega
            · rw [hS2]
              cbv
              (repeat (first | exact trivial | refine And.intro p2 ?_ | refine And.intro p3 ?_ | refine And.intro p4 ?_ | refine And.intro hfb.symm ?_ | refine And.intro heq3 ?_ | refine And.intro (Emb.Pur _ _) ?_ | refine And.intro (inc_eq A (by omega)) ?_ | refine And.intro rfl ?_ | refine And.intro (Pur.mk rfl) ?_))
        · have h5 : j ≤ j2 := lt_nf h5 rfl rfl
          rw [List.take_of_length_le (by omega)] at hb2
          have hmem : (ids.any fun m => decide (m = i')) = true ↔ i' ∈ ids := by simp
          cases b with
          | true =>
            have hbad : badN gg ids (.node i' k' s' ks') d' := hbd.2 (by
              have := hb2.symm
              rw [Bool.or_eq_true] at this
              exact this.imp id hmem.1)
            rw [if_pos hbad] at hinv
            rw [hinv] at hv
            cases hv
            ((try cbv) <;> (repeat ((with_reducible refine EW.of ?_); cbv)))
          | false =>
            have hbad : ¬ badN gg ids (.node i' k' s' ks') d' := fun hh => by
              have := hbd.1 hh
              rw [← hmem, ← Bool.or_eq_true, ← hb2] at this
              cases this
            rw [if_neg hbad] at hinv
            ((try cbv) <;> (repeat ((with_reducible refine EW.of ?_); cbv)))
            refine LM.of (j + 1) rfl ?_ ?_ ?_
            · rw [hS]; exact ⟨h1, by rw [htk]; exact hinv⟩
            · rw [hS]; show sp.length - (j + 1) < sp.length - j; omega
            · rw [hS]
              cbv
              (repeat (first | exact trivial | refine And.intro p2 ?_ | refine And.intro p3 ?_ | refine And.intro p4 ?_ | refine And.intro hfb.symm ?_ | refine And.intro heq3 ?_ | refine And.intro (Emb.Pur _ _) ?_ | refine And.intro (inc_eq A (by omega)) ?_ | refine And.intro rfl ?_ | refine And.intro (Pur.mk rfl) ?_))
      refine bno (ltF (Int.not_lt.1 c2)) ?_
      ((try cbv) <;> (repeat ((with_reducible refine EW.of ?_); cbv)))
      by_cases c3 : 1125899906842624 < i'
      · have hbd : badN gg ids (.node i' k' s' ks') d' ↔ (true = true ∨ i' ∈ ids) := ⟨fun _ => .inl rfl, fun _ => .inr (.inr (.inl c3))⟩
        obtain ⟨fb, hfb⟩ : ∃ b, b = true := ⟨_, rfl⟩
        refine byes (ltT c3) ?_
        ((try cbv) <;> (repeat ((with_reducible refine EW.of ?_); cbv)))
        have hbd : badN gg ids (.node i' k' s' ks') d' ↔ (fb = true ∨ i' ∈ ids) := by rw [hfb]; exact hbd
        refine TW.vsE [(10, .int .i64 0), (9, .bool fb), (8, .imm [.int .i64 i', .int .i64 k', .str s', .sl 4 (E.tree.l ks')]), (7, .int .i64 j), (6, .sl 5 (E.spot.l sp)), (2, .imm [.sl 3 (G.kind.l gk), .int .i64 root]), (4, .int .i64 0), (5, .int .i64 0)] [] 71 rfl ?_
        cbv
        (repeat (first | exact trivial | refine And.intro p2 ?_ | refine And.intro p3 ?_ | refine And.intro p4 ?_ | refine And.intro hfb.symm ?_ | refine And.intro heq3 ?_ | refine And.intro (Emb.Pur _ _) ?_ | refine And.intro (inc_eq A (by omega)) ?_ | refine And.intro rfl ?_ | refine And.intro (Pur.mk rfl) ?_))
        obtain ⟨S2, hS2⟩ : ∃ S : LI (Nat × Bool), S = ⟨fun x => [(10, .int .i64 x.1), (9, .bool x.2), (8, .imm [.int .i64 i', .int .i64 k', .str s', .sl 4 (E.tree.l ks')]), (7, .int .i64 j), (6, .sl 5 (E.spot.l sp)), (2, .imm [.sl 3 (G.kind.l gk), .int .i64 root]), (4, .int .i64 0), (5, .int .i64 0)], fun _ => [], fun x => x.1 ≤ j ∧ x.2 = (fb || (ids.take x.1).any fun m => decide (m = i')), fun x => j - x.1⟩ := ⟨_, rfl⟩
        refine TW.loopM A (T0_ok hP) S2 _ rfl (0, fb) ?_ ?_ ?_
        · rw [hS2]; exact ⟨Nat.zero_le _, by simp⟩
        · rw [hS2]
          cbv
          (repeat (first | exact trivial | refine And.intro p2 ?_ | refine And.intro p3 ?_ | refine And.intro p4 ?_ | refine And.intro hfb.symm ?_ | refine And.intro heq3 ?_ | refine And.intro (Emb.Pur _ _) ?_ | refine And.intro (inc_eq A (by omega)) ?_ | refine And.intro rfl ?_ | refine And.intro (Pur.mk rfl) ?_))
        rintro ⟨j2, b⟩ hi l2 L2 e1 e2
        rw [hS2] at hi e1 e2
        dsimp only at hi e1 e2
        obtain ⟨hi, hb2⟩ := hi
        subst e1 e2
        cbv
        ((try cbv) <;> (repeat ((with_reducible refine EW.of ?_); cbv)))
        refine bsplit (fun h5 => ?_) (fun h5 => ?_)
        · have h5 : j2 < j := lt_nt h5 rfl rfl
          obtain ⟨⟨t3, d3⟩, hx3⟩ : ∃ x, sp[j2]? = some x := ⟨_, List.getElem?_eq_getElem (by omega)⟩
          have hid3 : ids[j2]? = some (idT t3) := by rw [hids]; unfold idsL; rw [List.getElem?_map, List.getElem?_take, if_pos h5, hx3]; rfl
          have htk3 : ids.take (j2 + 1) = ids.take j2 ++ [idT t3] := by rw [List.take_add_one, hid3]; rfl
          obtain ⟨i3, k3, s3, ks3⟩ := t3
          have hgx3 := E.gets hx3
          cases b with
          | true =>
            ((try cbv) <;> (repeat ((with_reducible refine EW.of ?_); cbv)))
            (refine TW.draw (A := A) (T0_ok hP) (hP ▸ follows_mixed) (by kernel_rfl) rfl ?_; cbv)
            ((try cbv) <;> (repeat ((with_reducible refine EW.of ?_); cbv)))
            refine LM.of (j2 + 1, true) rfl ?_ ?_ ?_
            · rw [hS2]; exact ⟨h5, by show true = (fb || (ids.take (j2 + 1)).any _); rw [htk3, List.any_append, ← Bool.or_assoc, ← hb2]; rfl⟩
            · rw [hS2]; show j - (j2 + 1) < j - j2; omega
            · rw [hS2]
              cbv
              (repeat (first | exact trivial | refine And.intro p2 ?_ | refine And.intro p3 ?_ | refine And.intro p4 ?_ | refine And.intro hfb.symm ?_ | refine And.intro heq3 ?_ | refine And.intro (Emb.Pur _ _) ?_ | refine And.intro (inc_eq A (by omega)) ?_ | refine And.intro rfl ?_ | refine And.intro (Pur.mk rfl) ?_))
          | false =>
            obtain ⟨b3, hb3⟩ : ∃ b, b = decide (i3 = i') := ⟨_, rfl⟩
            have heq3 : A.eq i3 i' = b3 := by rw [A.ok_eq, hb3]
            ((try cbv) <;> (repeat ((with_reducible refine EW.of ?_); cbv)))
            (refine TW.draw (A := A) (T0_ok hP) (hP ▸ follows_mixed) (by kernel_rfl) rfl ?_; cbv)
            refine ⟨j2, _, rfl, hgx3, ?_⟩
            cbv
            ((try cbv) <;> (repeat ((with_reducible refine EW.of ?_); cbv)))
            refine LM.of (j2 + 1, b3) rfl ?_ ?_ ?_
            · rw [hS2]; exact ⟨h5, by show b3 = (fb || (ids.take (j2 + 1)).any _); rw [htk3, List.any_append, ← Bool.or_assoc, ← hb2, hb3]; simp [idT]⟩
            · rw [hS2]; show j - (j2 + 1) < j - j2; omega
            · rw [hS2]
              cbv
              (repeat (first | exact trivial | refine And.intro p2 ?_ | refine And.intro p3 ?_ | refine And.intro p4 ?_ | refine And.intro hfb.symm ?_ | refine And.intro heq3 ?_ | refine And.intro (Emb.Pur _ _) ?_ | refine And.intro (inc_eq A (by omega)) ?_ | refine And.intro rfl ?_ | refine And.intro (Pur.mk rfl) ?_))
        · have h5 : j ≤ j2 := lt_nf h5 rfl rfl
          rw [List.take_of_length_le (by omega)] at hb2
          have hmem : (ids.any fun m => decide (m = i')) = true ↔ i' ∈ ids := by simp
          cases b with
          | true =>
            have hbad : badN gg ids (.node i' k' s' ks') d' := hbd.2 (by
              have := hb2.symm
              rw [Bool.or_eq_true] at this
              exact this.imp id hmem.1)
            rw [if_pos hbad] at hinv
            rw [hinv] at hv
            cases hv
            ((try cbv) <;> (repeat ((with_reducible refine EW.of ?_); cbv)))
          | false =>
            have hbad : ¬ badN gg ids (.node i' k' s' ks') d' := fun hh => by
              have := hbd.1 hh
              rw [← hmem, ← Bool.or_eq_true, ← hb2] at this
              cases this
            rw [if_neg hbad] at hinv
            ((try cbv) <;> (repeat ((with_reducible refine EW.of ?_); cbv)))
            refine LM.of (j + 1) rfl ?_ ?_ ?_
            · rw [hS]; exact ⟨h1, by rw [htk]; exact hinv⟩
            · rw [hS]; show sp.length - (j + 1) < sp.length - j; omega
            · rw [hS]
              cbv
              (repeat (first | exact trivial | refine And.intro p2 ?_ | refine And.intro p3 ?_ | refine And.intro p4 ?_ | refine And.intro hfb.symm ?_ | refine And.intro heq3 ?_ | refine And.intro (Emb.Pur _ _) ?_ | refine And.intro (inc_eq A (by omega)) ?_ | refine And.intro rfl ?_ | refine And.intro (Pur.mk rfl) ?_))
      refine bno (ltF (Int.not_lt.1 c3)) ?_
      ((try cbv) <;> (repeat ((with_reducible refine EW.of ?_); cbv)))
      (refine ⟨Ent.of (hP ▸ Try.func31) rfl, ?_⟩; refine TC.pureE k31 ?_; cbv; (repeat (first | exact trivial | refine And.intro (Emb.Pur _ _) ?_ | refine And.intro rfl ?_ | refine And.intro (Pur.mk rfl) ?_ | refine And.intro (Pur.mk (by assumption)) ?_)); ((try cbv) <;> (repeat ((with_reducible refine EW.of ?_); cbv))))
      cases nb with
      | false =>
        have hbd : badN gg ids (.node i' k' s' ks') d' ↔ (true = true ∨ i' ∈ ids) := ⟨fun _ => .inl rfl, fun _ => .inr (.inr (.inr (.inr (hgg ▸ hnb.symm))))⟩
        obtain ⟨fb, hfb⟩ : ∃ b, b = true := ⟨_, rfl⟩
        ((try cbv) <;> (repeat ((with_reducible refine EW.of ?_); cbv)))
        have hbd : badN gg ids (.node i' k' s' ks') d' ↔ (fb = true ∨ i' ∈ ids) := by rw [hfb]; exact hbd
        refine TW.vsE [(10, .int .i64 0), (9, .bool fb), (8, .imm [.int .i64 i', .int .i64 k', .str s', .sl 4 (E.tree.l ks')]), (7, .int .i64 j), (6, .sl 5 (E.spot.l sp)), (2, .imm [.sl 3 (G.kind.l gk), .int .i64 root]), (4, .int .i64 0), (5, .int .i64 0)] [] 71 rfl ?_
        cbv
        (repeat (first | exact trivial | refine And.intro p2 ?_ | refine And.intro p3 ?_ | refine And.intro p4 ?_ | refine And.intro hfb.symm ?_ | refine And.intro heq3 ?_ | refine And.intro (Emb.Pur _ _) ?_ | refine And.intro (inc_eq A (by omega)) ?_ | refine And.intro rfl ?_ | refine And.intro (Pur.mk rfl) ?_))
        obtain ⟨S2, hS2⟩ : ∃ S : LI (Nat × Bool), S = ⟨fun x => [(10, .int .i64 x.1), (9, .bool x.2), (8, .imm [.int .i64 i', .int .i64 k', .str s', .sl 4 (E.tree.l ks')]), (7, .int .i64 j), (6, .sl 5 (E.spot.l sp)), (2, .imm [.sl 3 (G.kind.l gk), .int .i64 root]), (4, .int .i64 0), (5, .int .i64 0)], fun _ => [], fun x => x.1 ≤ j ∧ x.2 = (fb || (ids.take x.1).any fun m => decide (m = i')), fun x => j - x.1⟩ := ⟨_, rfl⟩
        refine TW.loopM A (T0_ok hP) S2 _ rfl (0, fb) ?_ ?_ ?_
        · rw [hS2]; exact ⟨Nat.zero_le _, by simp⟩
        · rw [hS2]
          cbv
          (repeat (first | exact trivial | refine And.intro p2 ?_ | refine And.intro p3 ?_ | refine And.intro p4 ?_ | refine And.intro hfb.symm ?_ | refine And.intro heq3 ?_ | refine And.intro (Emb.Pur _ _) ?_ | refine And.intro (inc_eq A (by omega)) ?_ | refine And.intro rfl ?_ | refine And.intro (Pur.mk rfl) ?_))
        rintro ⟨j2, b⟩ hi l2 L2 e1 e2
        rw [hS2] at hi e1 e2
        dsimp only at hi e1 e2
        obtain ⟨hi, hb2⟩ := hi
        subst e1 e2
        cbv
        ((try cbv) <;> (repeat ((with_reducible refine EW.of ?_); cbv)))
        refine bsplit (fun h5 => ?_) (fun h5 => ?_)
        · have h5 : j2 < j := lt_nt h5 rfl rfl
          obtain ⟨⟨t3, d3⟩, hx3⟩ : ∃ x, sp[j2]? = some x := ⟨_, List.getElem?_eq_getElem (by omega)⟩
          have hid3 : ids[j2]? = some (idT t3) := by rw [hids]; unfold idsL; rw [List.getElem?_map, List.getElem?_take, if_pos h5, hx3]; rfl
          have htk3 : ids.take (j2 + 1) = ids.take j2 ++ [idT t3] := by rw [List.take_add_one, hid3]; rfl
          obtain ⟨i3, k3, s3, ks3⟩ := t3
          have hgx3 := E.gets hx3
          cases b with
          | true =>
            ((try cbv) <;> (repeat ((with_reducible refine EW.of ?_); cbv)))
            (refine TW.draw (A := A) (T0_ok hP) (hP ▸ follows_mixed) (by kernel_rfl) rfl ?_; cbv)
            ((try cbv) <;> (repeat ((with_reducible refine EW.of ?_); cbv)))
            refine LM.of (j2 + 1, true) rfl ?_ ?_ ?_
            · rw [hS2]; exact ⟨h5, by show true = (fb || (ids.take (j2 + 1)).any _); rw [htk3, List.any_append, ← Bool.or_assoc, ← hb2]; rfl⟩
            · rw [hS2]; show j - (j2 + 1) < j - j2; omega
            · rw [hS2]
              cbv
              (repeat (first | exact trivial | refine And.intro p2 ?_ | refine And.intro p3 ?_ | refine And.intro p4 ?_ | refine And.intro hfb.symm ?_ | refine And.intro heq3 ?_ | refine And.intro (Emb.Pur _ _) ?_ | refine And.intro (inc_eq A (by omega)) ?_ | refine And.intro rfl ?_ | refine And.intro (Pur.mk rfl) ?_))
          | false =>
            obtain ⟨b3, hb3⟩ : ∃ b, b = decide (i3 = i') := ⟨_, rfl⟩
            have heq3 : A.eq i3 i' = b3 := by rw [A.ok_eq, hb3]
            ((try cbv) <;> (repeat ((with_reducible refine EW.of ?_); cbv)))
            (refine TW.draw (A := A) (T0_ok hP) (hP ▸ follows_mixed) (by kernel_rfl) rfl ?_; cbv)
            refine ⟨j2, _, rfl, hgx3, ?_⟩
            cbv
            ((try cbv) <;> (repeat ((with_reducible refine EW.of ?_); cbv)))
            refine LM.of (j2 + 1, b3) rfl ?_ ?_ ?_
            · rw [hS2]; exact ⟨h5, by show b3 = (fb || (ids.take (j2 + 1)).any _); rw [htk3, List.any_append, ← Bool.or_assoc, ← hb2, hb3]; simp [idT]⟩
            · rw [hS2]; show j - (j2 + 1) < j - j2; omega
            · rw [hS2]
              cbv
              (repeat (first | exact trivial | refine And.intro p2 ?_ | refine And.intro p3 ?_ | refine And.intro p4 ?_ | refine And.intro hfb.symm ?_ | refine And.intro heq3 ?_ | refine And.intro (Emb.Pur _ _) ?_ | refine And.intro (inc_eq A (by omega)) ?_ | refine And.intro rfl ?_ | refine And.intro (Pur.mk rfl) ?_))
        · have h5 : j ≤ j2 := lt_nf h5 rfl rfl
          rw [List.take_of_length_le (by omega)] at hb2
          have hmem : (ids.any fun m => decide (m = i')) = true ↔ i' ∈ ids := by simp
          cases b with
          | true =>
            have hbad : badN gg ids (.node i' k' s' ks') d' := hbd.2 (by
              have := hb2.symm
              rw [Bool.or_eq_true] at this
              exact this.imp id hmem.1)
            rw [if_pos hbad] at hinv
            rw [hinv] at hv
            cases hv
            ((try cbv) <;> (repeat ((with_reducible refine EW.of ?_); cbv)))
          | false =>
            have hbad : ¬ badN gg ids (.node i' k' s' ks') d' := fun hh => by
              have := hbd.1 hh
              rw [← hmem, ← Bool.or_eq_true, ← hb2] at this
              cases this
            rw [if_neg hbad] at hinv
            ((try cbv) <;> (repeat ((with_reducible refine EW.of ?_); cbv)))
            refine LM.of (j + 1) rfl ?_ ?_ ?_
            · rw [hS]; exact ⟨h1, by rw [htk]; exact hinv⟩
            · rw [hS]; show sp.length - (j + 1) < sp.length - j; omega
            · rw [hS]
              cbv
              (repeat (first | exact trivial | refine And.intro p2 ?_ | refine And.intro p3 ?_ | refine And.intro p4 ?_ | refine And.intro hfb.symm ?_ | refine And.intro heq3 ?_ | refine And.intro (Emb.Pur _ _) ?_ | refine And.intro (inc_eq A (by omega)) ?_ | refine And.intro rfl ?_ | refine And.intro (Pur.mk rfl) ?_))
      | true =>
        have hbd : badN gg ids (.node i' k' s' ks') d' ↔ (false = true ∨ i' ∈ ids) := ⟨fun h => .inr (by
            rcases h with h | h | h | h | h
            · exact absurd h c1
            · exact absurd h c2
            · exact absurd h c3
            · exact h
            · rw [hgg, ← hnb] at h; cases h), fun h => h.elim (fun h => by cases h) (fun h => .inr (.inr (.inr (.inl h))))⟩
        obtain ⟨fb, hfb⟩ : ∃ b, b = false := ⟨_, rfl⟩
        ((try cbv) <;> (repeat ((with_reducible refine EW.of ?_); cbv)))
        have hbd : badN gg ids (.node i' k' s' ks') d' ↔ (fb = true ∨ i' ∈ ids) := by rw [hfb]; exact hbd
        refine TW.vsE [(10, .int .i64 0), (9, .bool fb), (8, .imm [.int .i64 i', .int .i64 k', .str s', .sl 4 (E.tree.l ks')]), (7, .int .i64 j), (6, .sl 5 (E.spot.l sp)), (2, .imm [.sl 3 (G.kind.l gk), .int .i64 root]), (4, .int .i64 0), (5, .int .i64 0)] [] 71 rfl ?_
        cbv
        (repeat (first | exact trivial | refine And.intro p2 ?_ | refine And.intro p3 ?_ | refine And.intro p4 ?_ | refine And.intro hfb.symm ?_ | refine And.intro heq3 ?_ | refine And.intro (Emb.Pur _ _) ?_ | refine And.intro (inc_eq A (by omega)) ?_ | refine And.intro rfl ?_ | refine And.intro (Pur.mk rfl) ?_))
        obtain ⟨S2, hS2⟩ : ∃ S : LI (Nat × Bool), S = ⟨fun x => [(10, .int .i64 x.1), (9, .bool x.2), (8, .imm [.int .i64 i', .int .i64 k', .str s', .sl 4 (E.tree.l ks')]), (7, .int .i64 j), (6, .sl 5 (E.spot.l sp)), (2, .imm [.sl 3 (G.kind.l gk), .int .i64 root]), (4, .int .i64 0), (5, .int .i64 0)], fun _ => [], fun x => x.1 ≤ j ∧ x.2 = (fb || (ids.take x.1).any fun m => decide (m = i')), fun x => j - x.1⟩ := ⟨_, rfl⟩
        refine TW.loopM A (T0_ok hP) S2 _ rfl (0, fb) ?_ ?_ ?_
        · rw [hS2]; exact ⟨Nat.zero_le _, by simp⟩
        · rw [hS2]
          cbv
          (repeat (first | exact trivial | refine And.intro p2 ?_ | refine And.intro p3 ?_ | refine And.intro p4 ?_ | refine And.intro hfb.symm ?_ | refine And.intro heq3 ?_ | refine And.intro (Emb.Pur _ _) ?_ | refine And.intro (inc_eq A (by omega)) ?_ | refine And.intro rfl ?_ | refine And.intro (Pur.mk rfl) ?_))
        rintro ⟨j2, b⟩ hi l2 L2 e1 e2
        rw [hS2] at hi e1 e2
        dsimp only at hi e1 e2
        obtain ⟨hi, hb2⟩ := hi
        subst e1 e2
        cbv
        ((try cbv) <;> (repeat ((with_reducible refine EW.of ?_); cbv)))
        refine bsplit (fun h5 => ?_) (fun h5 => ?_)
        · have h5 : j2 < j := lt_nt h5 rfl rfl
          obtain ⟨⟨t3, d3⟩, hx3⟩ : ∃ x, sp[j2]? = some x := ⟨_, List.getElem?_eq_getElem (by omega)⟩
          have hid3 : ids[j2]? = some (idT t3) := by rw [hids]; unfold idsL; rw [List.getElem?_map, List.getElem?_take, if_pos h5, hx3]; rfl
          have htk3 : ids.take (j2 + 1) = ids.take j2 ++ [idT t3] := by rw [List.take_add_one, hid3]; rfl
          obtain ⟨i3, k3, s3, ks3⟩ := t3
          have hgx3 := E.gets hx3
          cases b with
          | true =>
            ((try cbv) <;> (repeat ((with_reducible refine EW.of ?_); cbv)))
            (refine TW.draw (A := A) (T0_ok hP) (hP ▸ follows_mixed) (by kernel_rfl) rfl ?_; cbv)
            ((try cbv) <;> (repeat ((with_reducible refine EW.of ?_); cbv)))
            refine LM.of (j2 + 1, true) rfl ?_ ?_ ?_
            · rw [hS2]; exact ⟨h5, by show true = (fb || (ids.take (j2 + 1)).any _); rw [htk3, List.any_append, ← Bool.or_assoc, ← hb2]; rfl⟩
            · rw [hS2]; show j - (j2 + 1) < j - j2; omega
            · rw [hS2]
              cbv
              (repeat (first | exact trivial | refine And.intro p2 ?_ | refine And.intro p3 ?_ | refine And.intro p4 ?_ | refine And.intro hfb.symm ?_ | refine And.intro heq3 ?_ | refine And.intro (Emb.Pur _ _) ?_ | refine And.intro (inc_eq A (by omega)) ?_ | refine And.intro rfl ?_ | refine And.intro (Pur.mk rfl) ?_))
          | false =>
            obtain ⟨b3, hb3⟩ : ∃ b, b = decide (i3 = i') := ⟨_, rfl⟩
            have heq3 : A.eq i3 i' = b3 := by rw [A.ok_eq, hb3]
            ((try cbv) <;> (repeat ((with_reducible refine EW.of ?_); cbv)))
            (refine TW.draw (A := A) (T0_ok hP) (hP ▸ follows_mixed) (by kernel_rfl) rfl ?_; cbv)
            refine ⟨j2, _, rfl, hgx3, ?_⟩
            cbv
            ((try cbv) <;> (repeat ((with_reducible refine EW.of ?_); cbv)))
            refine LM.of (j2 + 1, b3) rfl ?_ ?_ ?_
            · rw [hS2]; exact ⟨h5, by show b3 = (fb || (ids.take (j2 + 1)).any _); rw [htk3, List.any_append, ← Bool.or_assoc, ← hb2, hb3]; simp [idT]⟩
            · rw [hS2]; show j - (j2 + 1) < j - j2; omega
            · rw [hS2]
              cbv
              (repeat (first | exact trivial | refine And.intro p2 ?_ | refine And.intro p3 ?_ | refine And.intro p4 ?_ | refine And.intro hfb.symm ?_ | refine And.intro heq3 ?_ | refine And.intro (Emb.Pur _ _) ?_ | refine And.intro (inc_eq A (by omega)) ?_ | refine And.intro rfl ?_ | refine And.intro (Pur.mk rfl) ?_))
        · have h5 : j ≤ j2 := lt_nf h5 rfl rfl
          rw [List.take_of_length_le (by omega)] at hb2
          have hmem : (ids.any fun m => decide (m = i')) = true ↔ i' ∈ ids := by simp
          cases b with
          | true =>
            have hbad : badN gg ids (.node i' k' s' ks') d' := hbd.2 (by
              have := hb2.symm
              rw [Bool.or_eq_true] at this
              exact this.imp id hmem.1)
            rw [if_pos hbad] at hinv
            rw [hinv] at hv
            cases hv
            ((try cbv) <;> (repeat ((with_reducible refine EW.of ?_); cbv)))
          | false =>
            have hbad : ¬ badN gg ids (.node i' k' s' ks') d' := fun hh => by
              have := hbd.1 hh
              rw [← hmem, ← Bool.or_eq_true, ← hb2] at this
              cases this
            rw [if_neg hbad] at hinv
            ((try cbv) <;> (repeat ((with_reducible refine EW.of ?_); cbv)))
            refine LM.of (j + 1) rfl ?_ ?_ ?_
            · rw [hS]; exact ⟨h1, by rw [htk]; exact hinv⟩
            · rw [hS]; show sp.length - (j + 1) < sp.length - j; omega
            · rw [hS]
              cbv
              (repeat (first | exact trivial | refine And.intro p2 ?_ | refine And.intro p3 ?_ | refine And.intro p4 ?_ | refine And.intro hfb.symm ?_ | refine And.intro heq3 ?_ | refine And.intro (Emb.Pur _ _) ?_ | refine And.intro (inc_eq A (by omega)) ?_ | refine And.intro rfl ?_ | refine And.intro (Pur.mk rfl) ?_))
    · have h1 : sp.length ≤ j := lt_nf h1 rfl hlk
      rw [List.drop_eq_nil_of_le h1] at hinv
      replace hinv : R1 = none := hinv
      rw [hinv] at hv
      cases hv
      ((try cbv) <;> (repeat ((with_reducible refine EW.of ?_); cbv)))
end Go.Proofs.Ytlngpfocngfokaa
