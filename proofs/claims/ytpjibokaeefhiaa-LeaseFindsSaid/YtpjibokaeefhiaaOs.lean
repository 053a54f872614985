import Derived.Test.YtpjibokaeefhiaaOr
/-! The law LeaseFinds, walked; wakes is taken as told (h35) until it is walked. -/
namespace Go.Proofs.Ytpjibokaeefhiaa
open Go.Proofs.Ytpjibokaeefhiaa.Tw
theorem same5 (A : Ar) (a b c d e : Int) : A.bsel (A.eq a a) (A.bsel (A.eq b b) (A.bsel (A.eq c c) (A.bsel (A.eq d d) (A.bsel (A.eq e e) true false) false) false) false) false = true := by simp [A.ok_bsel, A.ok_eq]
set_option maxHeartbeats 2000000 in
theorem law12' (A : Ar) (E : Em) (F : EmL) {P : Program} (hP : P = Try.prog) (h35 : TPure P 35 [] (.bool true)) (t : Tree) (hok : t.ok) (l : List Lease) (id : Int) (ids : List Int) : TPure P 12 [E.tree.v t, .sl 5 (F.l.l l), .int .i64 id, .sl 1 (E.int.l ids)] (.bool true) := by
  refine TPure.ofE A T0 (T0_ok hP) (hP ▸ Try.func12) rfl _ rfl (by simp) ?_
  have h13 := Great13 A hP t hok
  have hgw := @great_within t
  have hll := F.l.len l
  have hli := E.int.len ids
  have h49 := fun hl => Find49 A E F hP l hl id
  have h50 := fun hl => Find50 A F hP l hl id
  have h51 := fun hw hl => Way51 A E F hP 2000 (by decide) t hw l hl id
  have h52 := fun hw hl => Way52 A E F hP 2000 (by decide) t hw l hl id
  have h53 := fun hl => Of53 A E F hP l hl id
  have h54 := fun hl => Of54 A F hP l hl id
  have h48 := fun hl hi => Remove48 A E F hP l hl ids hi
  have h55 := fun hl hi => Remove55 A E F hP l hl ids hi
  have hlo : (l.filter fun x => decide (x.client = id)).length ≤ l.length := List.length_filter_le _ _
  have hlr : (l.filter fun x => !ids.contains x.id).length ≤ l.length := List.length_filter_le _ _
  generalize great t = gr at h13 hgw
  generalize l.find? (fun x => decide (x.id = id)) = w1 at h49 h50
  generalize l.find? (fun x => withinS t x.root id || withinS t id x.root) = w2 at h51 h52
  generalize l.filter (fun x => decide (x.client = id)) = o1 at h53 h54 hlo
  generalize l.filter (fun x => !ids.contains x.id) = o2 at h48 h55 hlr
  have h38 := fun h => leases38 A F hP o1 o1 h
  have h38' := fun h => leases38 A F hP o2 o2 h
  rw [show decide (o1 = o1) = true from by simp] at h38
  rw [show decide (o2 = o2) = true from by simp] at h38'
  unfold EmL.found at h49 h50 h51 h52
  generalize w1.isSome = b1 at h49 h50
  generalize w1.getD lease0 = u at h49 h50
  generalize w2.isSome = b2 at h51 h52
  generalize w2.getD lease0 = y at h51 h52
  obtain ⟨u1, u2, u3, u4, u5⟩ := u
  obtain ⟨y1, y2, y3, y4, y5⟩ := y
  generalize ht : t = t1
  obtain ⟨i, k, s, ks⟩ := t
  subst ht
  simp only [E.av, E.node, F.row] at h13 h49 h50 h51 h52 ⊢
  cbv
  ((try cbv) <;> (repeat ((with_reducible refine EW.of ?_); cbv)))
  (refine ⟨Ent.of (hP ▸ Try.func13) rfl, ?_⟩; refine TC.pureE h13 ?_; cbv; (repeat (first | exact trivial | refine And.intro (Emb.Pur _ _) ?_ | refine And.intro rfl ?_ | refine And.intro (Pur.mk rfl) ?_ | refine And.intro (Pur.mk (by assumption)) ?_)); ((try cbv) <;> (repeat ((with_reducible refine EW.of ?_); cbv))))
  cases gr with
  | true =>
    ((try cbv) <;> (repeat ((with_reducible refine EW.of ?_); cbv)))
    (refine ⟨Ent.of (hP ▸ Try.func35) rfl, ?_⟩; refine TC.pureE h35 ?_; cbv; (repeat (first | exact trivial | refine And.intro (Emb.Pur _ _) ?_ | refine And.intro rfl ?_ | refine And.intro (Pur.mk rfl) ?_ | refine And.intro (Pur.mk (by assumption)) ?_)); ((try cbv) <;> (repeat ((with_reducible refine EW.of ?_); cbv))))
  | false =>
    have hw := hgw rfl
    ((try cbv) <;> (repeat ((with_reducible refine EW.of ?_); cbv)))
    by_cases h60 : 60 < l.length
    · have h61 : (60 : Int) < A.len (F.l.l l) := by rw [A.ok_len, hll]; omega
      refine byes (ltT h61) ?_
      cbv
      ((try cbv) <;> (repeat ((with_reducible refine EW.of ?_); cbv)))
      (refine ⟨Ent.of (hP ▸ Try.func35) rfl, ?_⟩; refine TC.pureE h35 ?_; cbv; (repeat (first | exact trivial | refine And.intro (Emb.Pur _ _) ?_ | refine And.intro rfl ?_ | refine And.intro (Pur.mk rfl) ?_ | refine And.intro (Pur.mk (by assumption)) ?_)); ((try cbv) <;> (repeat ((with_reducible refine EW.of ?_); cbv))))
    have h61 : A.len (F.l.l l) ≤ (60 : Int) := by rw [A.ok_len, hll]; omega
    refine bno (ltF h61) ?_
    cbv
    ((try cbv) <;> (repeat ((with_reducible refine EW.of ?_); cbv)))
    by_cases h60i : 60 < ids.length
    · have h62 : (60 : Int) < A.len (E.int.l ids) := by rw [A.ok_len, hli]; omega
      refine byes (ltT h62) ?_
      ((try cbv) <;> (repeat ((with_reducible refine EW.of ?_); cbv)))
      (refine ⟨Ent.of (hP ▸ Try.func35) rfl, ?_⟩; refine TC.pureE h35 ?_; cbv; (repeat (first | exact trivial | refine And.intro (Emb.Pur _ _) ?_ | refine And.intro rfl ?_ | refine And.intro (Pur.mk rfl) ?_ | refine And.intro (Pur.mk (by assumption)) ?_)); ((try cbv) <;> (repeat ((with_reducible refine EW.of ?_); cbv))))
    have h62 : A.len (E.int.l ids) ≤ (60 : Int) := by rw [A.ok_len, hli]; omega
    refine bno (ltF h62) ?_
    replace h49 := h49 (by omega)
    replace h50 := h50 (by omega)
    replace h51 := h51 hw (by omega)
    replace h52 := h52 hw (by omega)
    replace h53 := h53 (by omega)
    replace h54 := h54 (by omega)
    replace h48 := h48 (by omega) (by omega)
    replace h55 := h55 (by omega) (by omega)
    replace h38 := h38 (by omega)
    replace h38' := h38' (by omega)
    ((try cbv) <;> (repeat ((with_reducible refine EW.of ?_); cbv)))
    (refine ⟨Ent.of (hP ▸ Try.func49) rfl, ?_⟩; refine TC.pureE h49 ?_; cbv; (repeat (first | exact trivial | refine And.intro (Emb.Pur _ _) ?_ | refine And.intro rfl ?_ | refine And.intro (Pur.mk rfl) ?_ | refine And.intro (Pur.mk (by assumption)) ?_)); ((try cbv) <;> (repeat ((with_reducible refine EW.of ?_); cbv))))
    (refine ⟨Ent.of (hP ▸ Try.func50) rfl, ?_⟩; refine TC.pureE h50 ?_; cbv; (repeat (first | exact trivial | refine And.intro (Emb.Pur _ _) ?_ | refine And.intro rfl ?_ | refine And.intro (Pur.mk rfl) ?_ | refine And.intro (Pur.mk (by assumption)) ?_)); ((try cbv) <;> (repeat ((with_reducible refine EW.of ?_); cbv))))
    (refine ⟨Ent.of (hP ▸ Try.func51) rfl, ?_⟩; refine TC.pureE h51 ?_; cbv; (repeat (first | exact trivial | refine And.intro (Emb.Pur _ _) ?_ | refine And.intro rfl ?_ | refine And.intro (Pur.mk rfl) ?_ | refine And.intro (Pur.mk (by assumption)) ?_)); ((try cbv) <;> (repeat ((with_reducible refine EW.of ?_); cbv))))
    (refine ⟨Ent.of (hP ▸ Try.func52) rfl, ?_⟩; refine TC.pureE h52 ?_; cbv; (repeat (first | exact trivial | refine And.intro (Emb.Pur _ _) ?_ | refine And.intro rfl ?_ | refine And.intro (Pur.mk rfl) ?_ | refine And.intro (Pur.mk (by assumption)) ?_)); ((try cbv) <;> (repeat ((with_reducible refine EW.of ?_); cbv))))
    refine byes (same5 A u1 u2 u3 u4 u5) ?_
    cbv
    (first | refine byes (eqT rfl) ?_ | refine byes (beqT rfl) ?_)
    cbv
    refine byes (same5 A y1 y2 y3 y4 y5) ?_
    cbv
    (first | refine byes (eqT rfl) ?_ | refine byes (beqT rfl) ?_)
    cbv
    (refine ⟨Ent.of (hP ▸ Try.func53) rfl, ?_⟩; refine TC.pureE h53 ?_; cbv; (repeat (first | exact trivial | refine And.intro (Emb.Pur _ _) ?_ | refine And.intro rfl ?_ | refine And.intro (Pur.mk rfl) ?_ | refine And.intro (Pur.mk (by assumption)) ?_)); ((try cbv) <;> (repeat ((with_reducible refine EW.of ?_); cbv))))
    (refine ⟨Ent.of (hP ▸ Try.func54) rfl, ?_⟩; refine TC.pureE h54 ?_; cbv; (repeat (first | exact trivial | refine And.intro (Emb.Pur _ _) ?_ | refine And.intro rfl ?_ | refine And.intro (Pur.mk rfl) ?_ | refine And.intro (Pur.mk (by assumption)) ?_)); ((try cbv) <;> (repeat ((with_reducible refine EW.of ?_); cbv))))
    (refine ⟨Ent.of (hP ▸ Try.func38) rfl, ?_⟩; refine TC.pureE h38 ?_; cbv; (repeat (first | exact trivial | refine And.intro (Emb.Pur _ _) ?_ | refine And.intro rfl ?_ | refine And.intro (Pur.mk rfl) ?_ | refine And.intro (Pur.mk (by assumption)) ?_)); ((try cbv) <;> (repeat ((with_reducible refine EW.of ?_); cbv))))
    (refine ⟨Ent.of (hP ▸ Try.func48) rfl, ?_⟩; refine TC.pureE h48 ?_; cbv; (repeat (first | exact trivial | refine And.intro (Emb.Pur _ _) ?_ | refine And.intro rfl ?_ | refine And.intro (Pur.mk rfl) ?_ | refine And.intro (Pur.mk (by assumption)) ?_)); ((try cbv) <;> (repeat ((with_reducible refine EW.of ?_); cbv))))
    (refine ⟨Ent.of (hP ▸ Try.func55) rfl, ?_⟩; refine TC.pureE h55 ?_; cbv; (repeat (first | exact trivial | refine And.intro (Emb.Pur _ _) ?_ | refine And.intro rfl ?_ | refine And.intro (Pur.mk rfl) ?_ | refine And.intro (Pur.mk (by assumption)) ?_)); ((try cbv) <;> (repeat ((with_reducible refine EW.of ?_); cbv))))
    (refine ⟨Ent.of (hP ▸ Try.func38) rfl, ?_⟩; refine TC.pureE h38' ?_; cbv; (repeat (first | exact trivial | refine And.intro (Emb.Pur _ _) ?_ | refine And.intro rfl ?_ | refine And.intro (Pur.mk rfl) ?_ | refine And.intro (Pur.mk (by assumption)) ?_)); ((try cbv) <;> (repeat ((with_reducible refine EW.of ?_); cbv))))
    (refine ⟨Ent.of (hP ▸ Try.func35) rfl, ?_⟩; refine TC.pureE h35 ?_; cbv; (repeat (first | exact trivial | refine And.intro (Emb.Pur _ _) ?_ | refine And.intro rfl ?_ | refine And.intro (Pur.mk rfl) ?_ | refine And.intro (Pur.mk (by assumption)) ?_)); ((try cbv) <;> (repeat ((with_reducible refine EW.of ?_); cbv))))
end Go.Proofs.Ytpjibokaeefhiaa
