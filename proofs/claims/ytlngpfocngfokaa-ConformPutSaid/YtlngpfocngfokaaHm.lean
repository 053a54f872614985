import Derived.Test.YtlngpfocngfokaaHl
/-! ConformTells. -/
namespace Go.Proofs.Ytlngpfocngfokaa
open Go.Proofs.Ytlngpfocngfokaa.Tw
theorem bneqF {A : Ar} (b : Bool) : A.bnot (A.beq b b) = false := by
  rw [A.ok_bnot, A.ok_beq]
  cases b <;> rfl
set_option maxHeartbeats 4000000 in
theorem law7 (A : Ar) (E : Em) (G : EmG) (H : EmN) (R : EmR) (M : EmI) {P : Program} (hP : P = Try.prog) (g : Gra) (hg : g.ok) (t : Tree) (hok : t.ok) : TPure P 7 [G.gv g, E.tree.v t] (.bool true) := by
  have h25 := wakes25 A E G H R M hP
  have h10 := Great10 A E G hP g hg
  have h24 := Great24 A E hP t hok
  have c26 := fun h => Tree26 A E G H R M hP g hg 250 (by decide) t h
  have c27 := fun h => Tree27 A E G R hP g hg 250 (by decide) t hok h
  have c28 := fun h => Sub28 A E G H R M hP g hg 250 (by decide) t h
  have c29 := fun h => Sub29 A E G R hP g hg t hok (low_walk (n := 250) (by decide) h)
  have c30 := fun h => Node30 A E G H R hP g hg t h
  have c31 := fun h => Node31 A E G R hP g hg t h
  have c32 := fun h => Kinds32 A E hP t h
  have c33 := fun h => Kinds33 A E hP t h
  simp only [subR_subP] at c28
  have hlow := fun h => great3_low (t := t) h
  have hkl : low 250 t → kidsL t ≤ 1000000 := low_kids
  have hks : (kindsT t).length = kidsL t := by
    obtain ⟨i, k, s, ks⟩ := t
    show ((ks.map _).length) = _
    rw [List.length_map]
    rfl
  obtain ⟨bg, hbg⟩ : ∃ b, b = greatG g := ⟨_, rfl⟩
  rw [← hbg] at h10
  obtain ⟨bt, hbt⟩ : ∃ b, b = great3 t := ⟨_, rfl⟩
  rw [← hbt] at h24 hlow
  obtain ⟨v1, v2, hv⟩ : ∃ v1 v2, (v1, v2) = treeP g t := ⟨_, _, rfl⟩
  rw [← hv] at c26 c27
  obtain ⟨s1, s2, hs⟩ : ∃ s1 s2, (s1, s2) = subP g t := ⟨_, _, rfl⟩
  rw [← hs] at c28 c29
  obtain ⟨nb, hnb⟩ : ∃ b, b = nodeB g t := ⟨_, rfl⟩
  rw [← hnb] at c30 c31
  generalize kindsT t = kk at *
  obtain ⟨n, hn⟩ : ∃ n, n = kidsL t := ⟨_, rfl⟩
  rw [← hn] at hkl hks c30 c31 c32 c33
  obtain ⟨lw, hlw⟩ : ∃ p : Prop, p = low 250 t := ⟨_, rfl⟩
  rw [← hlw] at hlow hkl c26 c27 c28 c29
  have hll := E.int.len kk
  have hlk : A.len (E.int.l kk) = (kk.length : Int) := by rw [A.ok_len, hll]
  obtain ⟨i, k, s, ks⟩ := t
  obtain ⟨gk, root⟩ := g
  rw [E.node] at c26 c27 c28 c29 c30 c31 c32 c33 h24 ⊢
  unfold EmG.gv at c26 c27 c28 c29 c30 c31 h10 ⊢
  dsimp only at c26 c27 c28 c29 c30 c31 h10 ⊢
  have p2 : Tw.Pur [.sl 3 (G.kind.l gk), .int .i64 root] := Pur.mk (by (repeat (first | exact rfl | exact Emb.purL _ _ | assumption | apply pur_cons | apply pur_sl | apply pur_slt | apply pur_agg | apply pur_tup)))
  have p3 : Tw.Pur [.int .i64 i, .int .i64 k, .str s, .sl 4 (E.tree.l ks)] := Pur.mk (by (repeat (first | exact rfl | exact Emb.purL _ _ | assumption | apply pur_cons | apply pur_sl | apply pur_slt | apply pur_agg | apply pur_tup)))
  refine TPure.ofE A T0 (T0_ok hP) (hP ▸ Try.func7) rfl _ rfl (by simp) ?_
  cbv
  ((try cbv) <;> (repeat ((with_reducible refine EW.of ?_); cbv)))
  (refine ⟨Ent.of (hP ▸ Try.func10) rfl, ?_⟩; refine TC.pureE h10 ?_; cbv; (repeat (first | exact trivial | refine And.intro (Emb.Pur _ _) ?_ | refine And.intro rfl ?_ | refine And.intro (Pur.mk rfl) ?_ | refine And.intro (Pur.mk (by assumption)) ?_)); ((try cbv) <;> (repeat ((with_reducible refine EW.of ?_); cbv))))
  refine bsplit (fun h1 => ?_) (fun h1 => ?_)
  · ((try cbv) <;> (repeat ((with_reducible refine EW.of ?_); cbv)))
    (refine ⟨Ent.of (hP ▸ Try.func25) rfl, ?_⟩; refine TC.pureE h25 ?_; cbv; (repeat (first | exact trivial | refine And.intro (Emb.Pur _ _) ?_ | refine And.intro rfl ?_ | refine And.intro (Pur.mk rfl) ?_ | refine And.intro (Pur.mk (by assumption)) ?_)); ((try cbv) <;> (repeat ((with_reducible refine EW.of ?_); cbv))))
  ((try cbv) <;> (repeat ((with_reducible refine EW.of ?_); cbv)))
  (refine ⟨Ent.of (hP ▸ Try.func24) rfl, ?_⟩; refine TC.pureE h24 ?_; cbv; (repeat (first | exact trivial | refine And.intro (Emb.Pur _ _) ?_ | refine And.intro rfl ?_ | refine And.intro (Pur.mk rfl) ?_ | refine And.intro (Pur.mk (by assumption)) ?_)); ((try cbv) <;> (repeat ((with_reducible refine EW.of ?_); cbv))))
  refine bsplit (fun h2 => ?_) (fun h2 => ?_)
  · ((try cbv) <;> (repeat ((with_reducible refine EW.of ?_); cbv)))
    (refine ⟨Ent.of (hP ▸ Try.func25) rfl, ?_⟩; refine TC.pureE h25 ?_; cbv; (repeat (first | exact trivial | refine And.intro (Emb.Pur _ _) ?_ | refine And.intro rfl ?_ | refine And.intro (Pur.mk rfl) ?_ | refine And.intro (Pur.mk (by assumption)) ?_)); ((try cbv) <;> (repeat ((with_reducible refine EW.of ?_); cbv))))
  have hl : lw := hlow h2
  have c26 := c26 hl
  have c27 := c27 hl
  have c28 := c28 hl
  have c29 := c29 hl
  have hle := hkl hl
  have c30 := c30 hle
  have c31 := c31 hle
  have c32 := c32 hle
  have c33 := c33 hle
  ((try cbv) <;> (repeat ((with_reducible refine EW.of ?_); cbv)))
  (refine ⟨Ent.of (hP ▸ Try.func26) rfl, ?_⟩; refine TC.pureE c26 ?_; cbv; (repeat (first | exact trivial | refine And.intro (Emb.Pur _ _) ?_ | refine And.intro rfl ?_ | refine And.intro (Pur.mk rfl) ?_ | refine And.intro (Pur.mk (by assumption)) ?_)); ((try cbv) <;> (repeat ((with_reducible refine EW.of ?_); cbv))))
  ((try cbv) <;> (repeat ((with_reducible refine EW.of ?_); cbv)))
  (refine ⟨Ent.of (hP ▸ Try.func27) rfl, ?_⟩; refine TC.pureE c27 ?_; cbv; (repeat (first | exact trivial | refine And.intro (Emb.Pur _ _) ?_ | refine And.intro rfl ?_ | refine And.intro (Pur.mk rfl) ?_ | refine And.intro (Pur.mk (by assumption)) ?_)); ((try cbv) <;> (repeat ((with_reducible refine EW.of ?_); cbv))))
  ((try cbv) <;> (repeat ((with_reducible refine EW.of ?_); cbv)))
  (refine ⟨Ent.of (hP ▸ Try.func28) rfl, ?_⟩; refine TC.pureE c28 ?_; cbv; (repeat (first | exact trivial | refine And.intro (Emb.Pur _ _) ?_ | refine And.intro rfl ?_ | refine And.intro (Pur.mk rfl) ?_ | refine And.intro (Pur.mk (by assumption)) ?_)); ((try cbv) <;> (repeat ((with_reducible refine EW.of ?_); cbv))))
  ((try cbv) <;> (repeat ((with_reducible refine EW.of ?_); cbv)))
  (refine ⟨Ent.of (hP ▸ Try.func29) rfl, ?_⟩; refine TC.pureE c29 ?_; cbv; (repeat (first | exact trivial | refine And.intro (Emb.Pur _ _) ?_ | refine And.intro rfl ?_ | refine And.intro (Pur.mk rfl) ?_ | refine And.intro (Pur.mk (by assumption)) ?_)); ((try cbv) <;> (repeat ((with_reducible refine EW.of ?_); cbv))))
  ((try cbv) <;> (repeat ((with_reducible refine EW.of ?_); cbv)))
  (refine TW.draw (A := A) (T0_ok hP) (hP ▸ follows_mixed) (by kernel_rfl) rfl ?_; cbv)
  refine bno (neF rfl) ?_
  ((try cbv) <;> (repeat ((with_reducible refine EW.of ?_); cbv)))
  refine bno (neF rfl) ?_
  ((try cbv) <;> (repeat ((with_reducible refine EW.of ?_); cbv)))
  refine bno (neF rfl) ?_
  ((try cbv) <;> (repeat ((with_reducible refine EW.of ?_); cbv)))
  refine bno (neF rfl) ?_
  cbv
  (refine ⟨Ent.of (hP ▸ Try.func30) rfl, ?_⟩; refine ⟨_, TC.pureX c30 (by cbv; (repeat (first | exact trivial | refine And.intro (Emb.Pur _ _) ?_ | refine And.intro rfl ?_ | refine And.intro (Pur.mk rfl) ?_ | refine And.intro (Pur.mk (by assumption)) ?_))), ?_⟩; cbv)
  (refine ⟨Ent.of (hP ▸ Try.func31) rfl, ?_⟩; refine ⟨_, TC.pureX c31 (by cbv; (repeat (first | exact trivial | refine And.intro (Emb.Pur _ _) ?_ | refine And.intro rfl ?_ | refine And.intro (Pur.mk rfl) ?_ | refine And.intro (Pur.mk (by assumption)) ?_))), ?_⟩; cbv)
  ((try cbv) <;> (repeat ((with_reducible refine EW.of ?_); cbv)))
  refine bno (bneqF nb) ?_
  ((try cbv) <;> (repeat ((with_reducible refine EW.of ?_); cbv)))
  (refine TW.draw (A := A) (T0_ok hP) (hP ▸ follows_mixed) (by kernel_rfl) rfl ?_; cbv)
  (refine ⟨Ent.of (hP ▸ Try.func32) rfl, ?_⟩; refine ⟨_, TC.pureX c32 (by cbv; (repeat (first | exact trivial | refine And.intro (Emb.Pur _ _) ?_ | refine And.intro rfl ?_ | refine And.intro (Pur.mk rfl) ?_ | refine And.intro (Pur.mk (by assumption)) ?_))), ?_⟩; cbv)
  (refine ⟨Ent.of (hP ▸ Try.func33) rfl, ?_⟩; refine ⟨_, TC.pureX c33 (by cbv; (repeat (first | exact trivial | refine And.intro (Emb.Pur _ _) ?_ | refine And.intro rfl ?_ | refine And.intro (Pur.mk rfl) ?_ | refine And.intro (Pur.mk (by assumption)) ?_))), ?_⟩; cbv)
  ((try cbv) <;> (repeat ((with_reducible refine EW.of ?_); cbv)))
  refine bno (neF rfl) ?_
  ((try cbv) <;> (repeat ((with_reducible refine EW.of ?_); cbv)))
  obtain ⟨S, hS⟩ : ∃ S : LI Nat, S = ⟨fun x => [(85, .int .i64 x), (84, .int .i64 (A.len (E.int.l kk))), (14, .sl 1 (E.int.l kk)), (13, .sl 1 (E.int.l kk))], fun _ => [], fun x => x ≤ n, fun x => n - x⟩ := ⟨_, rfl⟩
  refine TW.loopM A (T0_ok hP) S _ rfl 0 ?_ ?_ ?_
  · rw [hS]; exact Nat.zero_le _
  · rw [hS]
    cbv
    (repeat (first | exact trivial | refine And.intro (Emb.Pur _ _) ?_ | refine And.intro (inc_eq A (by omega)) ?_ | refine And.intro rfl ?_ | refine And.intro p2 ?_ | refine And.intro p3 ?_))
  rintro j hj l1 L1 e1 e2
  rw [hS] at hj e1 e2
  dsimp only at hj e1 e2
  subst e1 e2
  cbv
  ((try cbv) <;> (repeat ((with_reducible refine EW.of ?_); cbv)))
  refine bsplit (fun h3 => ?_) (fun h3 => ?_)
  · have h3 : j < n := hks ▸ lt_nt h3 rfl hlk
    obtain ⟨y, hy⟩ : ∃ y, kk[j]? = some y := ⟨_, List.getElem?_eq_getElem (by omega)⟩
    have hgy := E.geti hy
    ((try cbv) <;> (repeat ((with_reducible refine EW.of ?_); cbv)))
    (refine TW.draw (A := A) (T0_ok hP) (hP ▸ follows_mixed) (by kernel_rfl) rfl ?_; cbv)
    refine ⟨j, _, rfl, hgy, ?_⟩
    cbv
    refine ⟨j, _, rfl, hgy, ?_⟩
    cbv
    ((try cbv) <;> (repeat ((with_reducible refine EW.of ?_); cbv)))
    refine bno (neF rfl) ?_
    ((try cbv) <;> (repeat ((with_reducible refine EW.of ?_); cbv)))
    refine LM.of (j + 1) rfl ?_ ?_ ?_
    · rw [hS]; show j + 1 ≤ n; omega
    · rw [hS]; show n - (j + 1) < n - j; omega
    · rw [hS]
      cbv
      (repeat (first | exact trivial | refine And.intro (Emb.Pur _ _) ?_ | refine And.intro (inc_eq A (by omega)) ?_ | refine And.intro rfl ?_ | refine And.intro p2 ?_ | refine And.intro p3 ?_))
  · ((try cbv) <;> (repeat ((with_reducible refine EW.of ?_); cbv)))
    (refine ⟨Ent.of (hP ▸ Try.func25) rfl, ?_⟩; refine TC.pureE h25 ?_; cbv; (repeat (first | exact trivial | refine And.intro (Emb.Pur _ _) ?_ | refine And.intro rfl ?_ | refine And.intro (Pur.mk rfl) ?_ | refine And.intro (Pur.mk (by assumption)) ?_)); ((try cbv) <;> (repeat ((with_reducible refine EW.of ?_); cbv))))
end Go.Proofs.Ytlngpfocngfokaa
