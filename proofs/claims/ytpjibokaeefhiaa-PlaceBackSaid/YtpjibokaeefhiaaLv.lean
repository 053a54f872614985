import Derived.Test.YtpjibokaeefhiaaLu
/-! The law PlaceParents, walked. -/
namespace Go.Proofs.Ytpjibokaeefhiaa
open Go.Proofs.Ytpjibokaeefhiaa.Tw
theorem upIds_len (t : Tree) (p : List Int) : ∀ m, (upIds t p m).length = m
  | 0 => rfl
  | m + 1 => by simp [upIds, upIds_len t p m]
set_option maxHeartbeats 1000000 in
theorem law3 (A : Ar) (E : Em) {P : Program} (hP : P = Try.prog) (t : Tree) (hok : t.ok) (a b : Int) : TPure P 3 [E.tree.v t, .int .i64 a, .int .i64 b] (.bool true) := by
  refine TPure.ofE A T0 (T0_ok hP) (hP ▸ Try.func3) rfl _ rfl (by simp) ?_
  have h13 := Great13 A hP t hok
  have hgw := @great_within t
  have h14 := wakes14 A E hP
  have h15 := fun hw => Parent15 A hP a 2000 (by decide) t hw
  have h16 := fun hw => Parent16 A hP a 2000 (by decide) t hw
  have h17 := fun hw => Above17 A hP a 2000 (by decide) t hw
  have h19 := fun hw => above19 A E hP a 2000 (by decide) t hw
  have h20 := fun hw => first20 A E hP a 2000 (by decide) t hw
  have h21 := fun hw => Within21 A hP a b 2000 (by decide) t hw
  have h22 := fun hw => Within22 A hP a b 2000 (by decide) t hw
  generalize great t = gr at h13 hgw
  generalize hl : aboveS t a = l at h17 h19 h20
  have hll : within 2000 t → l.length ≤ 2000 := fun hw => by
    rw [← hl]
    unfold aboveS
    cases hq : pathT a t with
    | none => simp
    | some p =>
      have := pathT_len a t 2000 p hw hq
      simp only [upIds_len]
      omega
  have h18 := fun h => ints18 A hP l l h
  rw [show (l == l) = true from by simp] at h18
  generalize parentS t a = ps at h15 h16
  generalize withinS t a b = wb at h21 h22
  obtain ⟨p1, p2, p3⟩ := ps
  generalize ht : t = t1
  obtain ⟨i, k, s, ks⟩ := t
  subst ht
  simp only [E.av, E.ints, E.node, parentAV] at h13 h15 h16 h17 h18 h19 h20 h21 h22 ⊢
  cbv
  ((try cbv) <;> (repeat ((with_reducible refine EW.of ?_); cbv)))
  (refine ⟨Ent.of (hP ▸ Try.func13) rfl, ?_⟩; refine TC.pureE h13 ?_; cbv; (repeat (first | exact trivial | refine And.intro (Emb.Pur _ _) ?_ | refine And.intro rfl ?_ | refine And.intro (Pur.mk rfl) ?_ | refine And.intro (Pur.mk (by assumption)) ?_)); ((try cbv) <;> (repeat ((with_reducible refine EW.of ?_); cbv))))
  cases gr with
  | true =>
    ((try cbv) <;> (repeat ((with_reducible refine EW.of ?_); cbv)))
    (refine ⟨Ent.of (hP ▸ Try.func14) rfl, ?_⟩; refine TC.pureE h14 ?_; cbv; (repeat (first | exact trivial | refine And.intro (Emb.Pur _ _) ?_ | refine And.intro rfl ?_ | refine And.intro (Pur.mk rfl) ?_ | refine And.intro (Pur.mk (by assumption)) ?_)); ((try cbv) <;> (repeat ((with_reducible refine EW.of ?_); cbv))))
  | false =>
    have hw := hgw rfl
    replace h15 := h15 hw
    replace h16 := h16 hw
    replace h17 := h17 hw
    replace h19 := h19 hw
    replace h20 := h20 hw
    replace h21 := h21 hw
    replace h22 := h22 hw
    have hll := hll hw
    replace h18 := h18 (by omega)
    obtain ⟨f, hf⟩ : ∃ f, f = l.headD 0 := ⟨_, rfl⟩
    rw [← hf] at h20
    have hlen := E.int.len l
    ((try cbv) <;> (repeat ((with_reducible refine EW.of ?_); cbv)))
    (refine ⟨Ent.of (hP ▸ Try.func15) rfl, ?_⟩; refine TC.pureE h15 ?_; cbv; (repeat (first | exact trivial | refine And.intro (Emb.Pur _ _) ?_ | refine And.intro rfl ?_ | refine And.intro (Pur.mk rfl) ?_ | refine And.intro (Pur.mk (by assumption)) ?_)); ((try cbv) <;> (repeat ((with_reducible refine EW.of ?_); cbv))))
    (refine ⟨Ent.of (hP ▸ Try.func16) rfl, ?_⟩; refine TC.pureE h16 ?_; cbv; (repeat (first | exact trivial | refine And.intro (Emb.Pur _ _) ?_ | refine And.intro rfl ?_ | refine And.intro (Pur.mk rfl) ?_ | refine And.intro (Pur.mk (by assumption)) ?_)); ((try cbv) <;> (repeat ((with_reducible refine EW.of ?_); cbv))))
    (refine ⟨Ent.of (hP ▸ Try.func17) rfl, ?_⟩; refine TC.pureE h17 ?_; cbv; (repeat (first | exact trivial | refine And.intro (Emb.Pur _ _) ?_ | refine And.intro rfl ?_ | refine And.intro (Pur.mk rfl) ?_ | refine And.intro (Pur.mk (by assumption)) ?_)); ((try cbv) <;> (repeat ((with_reducible refine EW.of ?_); cbv))))
    refine bsplit (fun h => ?_) (fun h => ?_)
    · have h : 0 < (E.int.l l).length := lt_nt (i := 0) h rfl (A.ok_len _)
      obtain ⟨x, hx⟩ : ∃ x, l[0]? = some x := ⟨_, List.getElem?_eq_getElem (by omega)⟩
      have hfx : x = f := by
        rw [hf]
        cases l with
        | nil => simp at hx
        | cons y l => simp at hx; exact hx.symm
      subst hfx
      ((try cbv) <;> (repeat ((with_reducible refine EW.of ?_); cbv)))
      refine ⟨0, _, rfl, E.geti hx, ?_⟩
      cbv
      ((try cbv) <;> (repeat ((with_reducible refine EW.of ?_); cbv)))
      (refine TW.draw (A := A) (T0_ok hP) (hP ▸ follows_mixed) (by kernel_rfl) rfl ?_; cbv)
      (first | refine byes (eqT rfl) ?_ | refine byes (beqT rfl) ?_)
      cbv
      (first | refine byes (eqT rfl) ?_ | refine byes (beqT rfl) ?_)
      cbv
      (first | refine byes (eqT rfl) ?_ | refine byes (beqT rfl) ?_)
      cbv
      (refine ⟨Ent.of (hP ▸ Try.func19) rfl, ?_⟩; refine ⟨_, TC.pureX h19 (by cbv; (repeat (first | exact trivial | refine And.intro (Emb.Pur _ _) ?_ | refine And.intro rfl ?_ | refine And.intro (Pur.mk rfl) ?_ | refine And.intro (Pur.mk (by assumption)) ?_))), ?_⟩; cbv)
      (refine ⟨Ent.of (hP ▸ Try.func18) rfl, ?_⟩; refine ⟨_, TC.pureX h18 (by cbv; (repeat (first | exact trivial | refine And.intro (Emb.Pur _ _) ?_ | refine And.intro rfl ?_ | refine And.intro (Pur.mk rfl) ?_ | refine And.intro (Pur.mk (by assumption)) ?_))), ?_⟩; cbv)
      (refine ⟨Ent.of (hP ▸ Try.func20) rfl, ?_⟩; refine ⟨_, TC.pureX h20 (by cbv; (repeat (first | exact trivial | refine And.intro (Emb.Pur _ _) ?_ | refine And.intro rfl ?_ | refine And.intro (Pur.mk rfl) ?_ | refine And.intro (Pur.mk (by assumption)) ?_))), ?_⟩; cbv)
      (first | refine byes (eqT rfl) ?_ | refine byes (beqT rfl) ?_)
      cbv
      (refine ⟨Ent.of (hP ▸ Try.func21) rfl, ?_⟩; refine ⟨_, TC.pureX h21 (by cbv; (repeat (first | exact trivial | refine And.intro (Emb.Pur _ _) ?_ | refine And.intro rfl ?_ | refine And.intro (Pur.mk rfl) ?_ | refine And.intro (Pur.mk (by assumption)) ?_))), ?_⟩; cbv)
      (refine ⟨Ent.of (hP ▸ Try.func22) rfl, ?_⟩; refine ⟨_, TC.pureX h22 (by cbv; (repeat (first | exact trivial | refine And.intro (Emb.Pur _ _) ?_ | refine And.intro rfl ?_ | refine And.intro (Pur.mk rfl) ?_ | refine And.intro (Pur.mk (by assumption)) ?_))), ?_⟩; cbv)
      (first | refine byes (eqT rfl) ?_ | refine byes (beqT rfl) ?_)
      cbv
      (refine ⟨Ent.of (hP ▸ Try.func14) rfl, ?_⟩; refine ⟨_, TC.pureX h14 (by cbv; (repeat (first | exact trivial | refine And.intro (Emb.Pur _ _) ?_ | refine And.intro rfl ?_ | refine And.intro (Pur.mk rfl) ?_ | refine And.intro (Pur.mk (by assumption)) ?_))), ?_⟩; cbv)
      ((try cbv) <;> (repeat ((with_reducible refine EW.of ?_); cbv)))
    · have h : (E.int.l l).length ≤ 0 := lt_nf (i := 0) h rfl (A.ok_len _)
      have hfx : 0 = f := by
        rw [hf]
        cases l with
        | nil => rfl
        | cons y l => simp at hlen; omega
      subst hfx
      ((try cbv) <;> (repeat ((with_reducible refine EW.of ?_); cbv)))
      (refine TW.draw (A := A) (T0_ok hP) (hP ▸ follows_mixed) (by kernel_rfl) rfl ?_; cbv)
      (first | refine byes (eqT rfl) ?_ | refine byes (beqT rfl) ?_)
      cbv
      (first | refine byes (eqT rfl) ?_ | refine byes (beqT rfl) ?_)
      cbv
      (first | refine byes (eqT rfl) ?_ | refine byes (beqT rfl) ?_)
      cbv
      (refine ⟨Ent.of (hP ▸ Try.func19) rfl, ?_⟩; refine ⟨_, TC.pureX h19 (by cbv; (repeat (first | exact trivial | refine And.intro (Emb.Pur _ _) ?_ | refine And.intro rfl ?_ | refine And.intro (Pur.mk rfl) ?_ | refine And.intro (Pur.mk (by assumption)) ?_))), ?_⟩; cbv)
      (refine ⟨Ent.of (hP ▸ Try.func18) rfl, ?_⟩; refine ⟨_, TC.pureX h18 (by cbv; (repeat (first | exact trivial | refine And.intro (Emb.Pur _ _) ?_ | refine And.intro rfl ?_ | refine And.intro (Pur.mk rfl) ?_ | refine And.intro (Pur.mk (by assumption)) ?_))), ?_⟩; cbv)
      (refine ⟨Ent.of (hP ▸ Try.func20) rfl, ?_⟩; refine ⟨_, TC.pureX h20 (by cbv; (repeat (first | exact trivial | refine And.intro (Emb.Pur _ _) ?_ | refine And.intro rfl ?_ | refine And.intro (Pur.mk rfl) ?_ | refine And.intro (Pur.mk (by assumption)) ?_))), ?_⟩; cbv)
      (first | refine byes (eqT rfl) ?_ | refine byes (beqT rfl) ?_)
      cbv
      (refine ⟨Ent.of (hP ▸ Try.func21) rfl, ?_⟩; refine ⟨_, TC.pureX h21 (by cbv; (repeat (first | exact trivial | refine And.intro (Emb.Pur _ _) ?_ | refine And.intro rfl ?_ | refine And.intro (Pur.mk rfl) ?_ | refine And.intro (Pur.mk (by assumption)) ?_))), ?_⟩; cbv)
      (refine ⟨Ent.of (hP ▸ Try.func22) rfl, ?_⟩; refine ⟨_, TC.pureX h22 (by cbv; (repeat (first | exact trivial | refine And.intro (Emb.Pur _ _) ?_ | refine And.intro rfl ?_ | refine And.intro (Pur.mk rfl) ?_ | refine And.intro (Pur.mk (by assumption)) ?_))), ?_⟩; cbv)
      (first | refine byes (eqT rfl) ?_ | refine byes (beqT rfl) ?_)
      cbv
      (refine ⟨Ent.of (hP ▸ Try.func14) rfl, ?_⟩; refine ⟨_, TC.pureX h14 (by cbv; (repeat (first | exact trivial | refine And.intro (Emb.Pur _ _) ?_ | refine And.intro rfl ?_ | refine And.intro (Pur.mk rfl) ?_ | refine And.intro (Pur.mk (by assumption)) ?_))), ?_⟩; cbv)
      ((try cbv) <;> (repeat ((with_reducible refine EW.of ?_); cbv)))
end Go.Proofs.Ytpjibokaeefhiaa
