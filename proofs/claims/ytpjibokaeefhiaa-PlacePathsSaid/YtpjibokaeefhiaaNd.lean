import Derived.Test.YtpjibokaeefhiaaNc
/-! The law PlacePaths, walked. -/
namespace Go.Proofs.Ytpjibokaeefhiaa
open Go.Proofs.Ytpjibokaeefhiaa.Tw
set_option maxHeartbeats 1000000 in
theorem law5 (A : Ar) (E : Em) {P : Program} (hP : P = Try.prog) (t : Tree) (hok : t.ok) (a b : Int) (path : List Int) : TPure P 5 [E.tree.v t, .int .i64 a, .int .i64 b, .sl 1 (E.int.l path)] (.bool true) := by
  refine TPure.ofE A T0 (T0_ok hP) (hP ▸ Try.func5) rfl _ rfl (by simp) ?_
  have h13 := Great13 A hP t hok
  have hgw := @great_within t
  have h14 := wakes14 A E hP
  have h26 := fun hw => Path26 A hP a 2000 (by decide) t hw
  have h27 := fun hw => Path27 A hP a 2000 (by decide) t hw
  have h28 := fun hw h => At28 A E hP 2000 t hw path h
  have h29 := fun hw h => At29 A hP 2000 t hw path h
  have h25 := fun hw => Common25 A E hP a b 2000 (by decide) t hw
  have h30 := fun hw => Common30 A E hP a b 2000 (by decide) t hw
  have hpl := fun hw p => pathT_len a t 2000 p hw
  generalize great t = gr at h13 hgw
  generalize pathT a t = o at h26 h27 hpl
  generalize hc : commonS t a b = c at h25 h30
  obtain ⟨c1, c2⟩ := c
  have h31 := fun hw => same31 A E hP 2001 ((atT t path).getD t0) ((atT t path).getD t0) hw
  simp only [sameT_refl] at h31
  have hat : within 2000 t → within 2001 ((atT t path).getD t0) := fun hw => by
    cases h : atT t path with
    | none => exact ⟨by simp, fun t ht => by cases ht⟩
    | some u => exact within_mono (by decide) (atT_within path hw h)
  simp only [atAV] at h29
  generalize (atT t path).getD t0 = u at h28 h29 h31 hat
  generalize (atT t path).isSome = ob at h28 h29
  have hll := E.int.len path
  generalize ht : t = t1
  obtain ⟨i, k, s, ks⟩ := t
  subst ht
  obtain ⟨i2, k2, s2, ks2⟩ := u
  simp only [E.av, E.ints, E.node, pathAV] at h13 h25 h26 h27 h28 h29 h30 h31 ⊢
  obtain ⟨op, hop⟩ : ∃ op, op = o.getD [] := ⟨_, rfl⟩
  obtain ⟨os, hos⟩ : ∃ os, os = o.isSome := ⟨_, rfl⟩
  rw [← hop, ← hos] at h26 h27
  have h18 := fun h => ints18 A hP op op h
  rw [show (op == op) = true from by simp] at h18
  simp only [E.ints] at h18
  cbv
  ((try cbv) <;> (repeat ((with_reducible refine EW.of ?_); cbv)))
  (refine ⟨Ent.of (hP ▸ Try.func13) rfl, ?_⟩; refine TC.pureE h13 ?_; cbv; (repeat (first | exact trivial | refine And.intro (Emb.Pur _ _) ?_ | refine And.intro rfl ?_ | refine And.intro (Pur.mk rfl) ?_ | refine And.intro (Pur.mk (by assumption)) ?_)); ((try cbv) <;> (repeat ((with_reducible refine EW.of ?_); cbv))))
  cases gr with
  | true =>
    ((try cbv) <;> (repeat ((with_reducible refine EW.of ?_); cbv)))
    (refine ⟨Ent.of (hP ▸ Try.func14) rfl, ?_⟩; refine TC.pureE h14 ?_; cbv; (repeat (first | exact trivial | refine And.intro (Emb.Pur _ _) ?_ | refine And.intro rfl ?_ | refine And.intro (Pur.mk rfl) ?_ | refine And.intro (Pur.mk (by assumption)) ?_)); ((try cbv) <;> (repeat ((with_reducible refine EW.of ?_); cbv))))
  | false =>
    have hw := hgw rfl
    ((try cbv) <;> (repeat ((with_reducible refine EW.of ?_); cbv)))
    refine bsplit (fun h => ?_) (fun h => ?_)
    · ((try cbv) <;> (repeat ((with_reducible refine EW.of ?_); cbv)))
      (refine ⟨Ent.of (hP ▸ Try.func14) rfl, ?_⟩; refine TC.pureE h14 ?_; cbv; (repeat (first | exact trivial | refine And.intro (Emb.Pur _ _) ?_ | refine And.intro rfl ?_ | refine And.intro (Pur.mk rfl) ?_ | refine And.intro (Pur.mk (by assumption)) ?_)); ((try cbv) <;> (repeat ((with_reducible refine EW.of ?_); cbv))))
    · have h : (E.int.l path).length ≤ 3000 := lt_nf (i := 3000) h rfl (A.ok_len _)
      have hpo : op.length < 2001 := by
        rw [hop]
        cases o with
        | none => simp
        | some p => have := hpl hw p rfl; simp; omega
      replace h18 := h18 (by omega)
      replace h25 := h25 hw
      replace h26 := h26 hw
      replace h27 := h27 hw
      replace h28 := h28 hw (by omega)
      replace h29 := h29 hw (by omega)
      replace h30 := h30 hw
      replace h31 := h31 (hat hw)
      ((try cbv) <;> (repeat ((with_reducible refine EW.of ?_); cbv)))
      (refine ⟨Ent.of (hP ▸ Try.func26) rfl, ?_⟩; refine TC.pureE h26 ?_; cbv; (repeat (first | exact trivial | refine And.intro (Emb.Pur _ _) ?_ | refine And.intro rfl ?_ | refine And.intro (Pur.mk rfl) ?_ | refine And.intro (Pur.mk (by assumption)) ?_)); ((try cbv) <;> (repeat ((with_reducible refine EW.of ?_); cbv))))
      (refine ⟨Ent.of (hP ▸ Try.func27) rfl, ?_⟩; refine TC.pureE h27 ?_; cbv; (repeat (first | exact trivial | refine And.intro (Emb.Pur _ _) ?_ | refine And.intro rfl ?_ | refine And.intro (Pur.mk rfl) ?_ | refine And.intro (Pur.mk (by assumption)) ?_)); ((try cbv) <;> (repeat ((with_reducible refine EW.of ?_); cbv))))
      (refine ⟨Ent.of (hP ▸ Try.func28) rfl, ?_⟩; refine TC.pureE h28 ?_; cbv; (repeat (first | exact trivial | refine And.intro (Emb.Pur _ _) ?_ | refine And.intro rfl ?_ | refine And.intro (Pur.mk rfl) ?_ | refine And.intro (Pur.mk (by assumption)) ?_)); ((try cbv) <;> (repeat ((with_reducible refine EW.of ?_); cbv))))
      (refine ⟨Ent.of (hP ▸ Try.func29) rfl, ?_⟩; refine TC.pureE h29 ?_; cbv; (repeat (first | exact trivial | refine And.intro (Emb.Pur _ _) ?_ | refine And.intro rfl ?_ | refine And.intro (Pur.mk rfl) ?_ | refine And.intro (Pur.mk (by assumption)) ?_)); ((try cbv) <;> (repeat ((with_reducible refine EW.of ?_); cbv))))
      (refine ⟨Ent.of (hP ▸ Try.func25) rfl, ?_⟩; refine TC.pureE h25 ?_; cbv; (repeat (first | exact trivial | refine And.intro (Emb.Pur _ _) ?_ | refine And.intro rfl ?_ | refine And.intro (Pur.mk rfl) ?_ | refine And.intro (Pur.mk (by assumption)) ?_)); ((try cbv) <;> (repeat ((with_reducible refine EW.of ?_); cbv))))
      (refine ⟨Ent.of (hP ▸ Try.func30) rfl, ?_⟩; refine TC.pureE h30 ?_; cbv; (repeat (first | exact trivial | refine And.intro (Emb.Pur _ _) ?_ | refine And.intro rfl ?_ | refine And.intro (Pur.mk rfl) ?_ | refine And.intro (Pur.mk (by assumption)) ?_)); ((try cbv) <;> (repeat ((with_reducible refine EW.of ?_); cbv))))
      (first | refine byes (eqT rfl) ?_ | refine byes (beqT rfl) ?_)
      ((try cbv) <;> (repeat ((with_reducible refine EW.of ?_); cbv)))
      (refine ⟨Ent.of (hP ▸ Try.func18) rfl, ?_⟩; refine TC.pureE h18 ?_; cbv; (repeat (first | exact trivial | refine And.intro (Emb.Pur _ _) ?_ | refine And.intro rfl ?_ | refine And.intro (Pur.mk rfl) ?_ | refine And.intro (Pur.mk (by assumption)) ?_)); ((try cbv) <;> (repeat ((with_reducible refine EW.of ?_); cbv))))
      (first | refine byes (eqT rfl) ?_ | refine byes (beqT rfl) ?_)
      ((try cbv) <;> (repeat ((with_reducible refine EW.of ?_); cbv)))
      (refine ⟨Ent.of (hP ▸ Try.func31) rfl, ?_⟩; refine TC.pureE h31 ?_; cbv; (repeat (first | exact trivial | refine And.intro (Emb.Pur _ _) ?_ | refine And.intro rfl ?_ | refine And.intro (Pur.mk rfl) ?_ | refine And.intro (Pur.mk (by assumption)) ?_)); ((try cbv) <;> (repeat ((with_reducible refine EW.of ?_); cbv))))
      (first | refine byes (eqT rfl) ?_ | refine byes (beqT rfl) ?_)
      ((try cbv) <;> (repeat ((with_reducible refine EW.of ?_); cbv)))
      (first | refine byes (eqT rfl) ?_ | refine byes (beqT rfl) ?_)
      ((try cbv) <;> (repeat ((with_reducible refine EW.of ?_); cbv)))
      (refine ⟨Ent.of (hP ▸ Try.func14) rfl, ?_⟩; refine TC.pureE h14 ?_; cbv; (repeat (first | exact trivial | refine And.intro (Emb.Pur _ _) ?_ | refine And.intro rfl ?_ | refine And.intro (Pur.mk rfl) ?_ | refine And.intro (Pur.mk (by assumption)) ?_)); ((try cbv) <;> (repeat ((with_reducible refine EW.of ?_); cbv))))
end Go.Proofs.Ytpjibokaeefhiaa
