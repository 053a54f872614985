import Derived.Test.YtpjibokaeefhiaaOl
import Derived.Test.YtpjibokaeefhiaaLu
import Derived.Test.YtpjibokaeefhiaaOk
/-! The law LeaseAdds, walked; wakes is taken as told (h35) until it is walked. -/
namespace Go.Proofs.Ytpjibokaeefhiaa
open Go.Proofs.Ytpjibokaeefhiaa.Tw
theorem addS_len (t : Tree) (l : List Lease) (x : Lease) : (addS t l x).1.length ≤ l.length + 1 := by
  unfold addS
  repeat' split
  all_goals simp
set_option maxHeartbeats 1000000 in
theorem law8' (A : Ar) (E : Em) (F : EmL) {P : Program} (hP : P = Try.prog) (h35 : TPure P 35 [] (.bool true)) (t : Tree) (hok : t.ok) (l : List Lease) (hlm : l.length ≤ maxLen) (x : Lease) : TPure P 8 [E.tree.v t, .sl 5 (F.l.l l), F.l.v x] (.bool true) := by
  refine TPure.ofE A T0 (T0_ok hP) (hP ▸ Try.func8) rfl _ rfl (by simp) ?_
  have h13 := Great13 A hP t hok
  have hgw := @great_within t
  have hll := F.l.len l
  have h36 := fun hw hl => Add36 A E F hP 2000 (by decide) t hw l hl x
  have h37 := fun hw hl => Add37 A E F hP 2000 (by decide) t hw l hl x
  have hal := addS_len t l x
  generalize great t = gr at h13 hgw
  generalize addS t l x = o at h36 h37 hal
  obtain ⟨o1, o2⟩ := o
  have h38 := fun h => leases38 A F hP o1 o1 h
  rw [show decide (o1 = o1) = true from by simp] at h38
  unfold EmL.added at h36 h37
  dsimp only at h36 h37 hal
  generalize ht : t = t1
  obtain ⟨i, k, s, ks⟩ := t
  subst ht
  obtain ⟨x1, x2, x3, x4, x5⟩ := x
  simp only [E.av, E.node, F.row] at h13 h36 h37 ⊢
  cbv
  ((try cbv) <;> (repeat ((with_reducible refine EW.of ?_); cbv)))
  (refine ⟨Ent.of (hP ▸ Try.func13) rfl, ?_⟩; refine TC.pureE h13 ?_; cbv; (repeat (first | exact trivial | refine And.intro (Emb.Pur _ _) ?_ | refine And.intro rfl ?_ | refine And.intro (Pur.mk rfl) ?_ | refine And.intro (Pur.mk (by assumption)) ?_)); ((try cbv) <;> (repeat ((with_reducible refine EW.of ?_); cbv))))
  cases gr with
  | true =>
    ((try cbv) <;> (repeat ((with_reducible refine EW.of ?_); cbv)))
    (refine ⟨Ent.of (hP ▸ Try.func35) rfl, ?_⟩; refine TC.pureE h35 ?_; cbv; (repeat (first | exact trivial | refine And.intro (Emb.Pur _ _) ?_ | refine And.intro rfl ?_ | refine And.intro (Pur.mk rfl) ?_ | refine And.intro (Pur.mk (by assumption)) ?_)); ((try cbv) <;> (repeat ((with_reducible refine EW.of ?_); cbv))))
  | false =>
    have hw := hgw rfl
    ((try cbv) <;> (repeat ((with_reducible refine EW.of ?_); cbv)))
    by_cases h60 : 60 < l.length
    · have h61 : (60 : Int) < A.len (F.l.l l) := by rw [A.ok_len, hll]; omega
      refine byes (ltT h61) ?_
      ((try cbv) <;> (repeat ((with_reducible refine EW.of ?_); cbv)))
      (refine ⟨Ent.of (hP ▸ Try.func35) rfl, ?_⟩; refine TC.pureE h35 ?_; cbv; (repeat (first | exact trivial | refine And.intro (Emb.Pur _ _) ?_ | refine And.intro rfl ?_ | refine And.intro (Pur.mk rfl) ?_ | refine And.intro (Pur.mk (by assumption)) ?_)); ((try cbv) <;> (repeat ((with_reducible refine EW.of ?_); cbv))))
    · have h61 : A.len (F.l.l l) ≤ (60 : Int) := by rw [A.ok_len, hll]; omega
      replace h36 := h36 hw (by omega)
      replace h37 := h37 hw (by omega)
      replace h38 := h38 (by omega)
      refine bno (ltF h61) ?_
      ((try cbv) <;> (repeat ((with_reducible refine EW.of ?_); cbv)))
      (refine ⟨Ent.of (hP ▸ Try.func36) rfl, ?_⟩; refine TC.pureE h36 ?_; cbv; (repeat (first | exact trivial | refine And.intro (Emb.Pur _ _) ?_ | refine And.intro rfl ?_ | refine And.intro (Pur.mk rfl) ?_ | refine And.intro (Pur.mk (by assumption)) ?_)); ((try cbv) <;> (repeat ((with_reducible refine EW.of ?_); cbv))))
      (refine ⟨Ent.of (hP ▸ Try.func37) rfl, ?_⟩; refine TC.pureE h37 ?_; cbv; (repeat (first | exact trivial | refine And.intro (Emb.Pur _ _) ?_ | refine And.intro rfl ?_ | refine And.intro (Pur.mk rfl) ?_ | refine And.intro (Pur.mk (by assumption)) ?_)); ((try cbv) <;> (repeat ((with_reducible refine EW.of ?_); cbv))))
      (first | refine byes (eqT rfl) ?_ | refine byes (beqT rfl) ?_)
      cbv
      (refine ⟨Ent.of (hP ▸ Try.func38) rfl, ?_⟩; refine TC.pureE h38 ?_; cbv; (repeat (first | exact trivial | refine And.intro (Emb.Pur _ _) ?_ | refine And.intro rfl ?_ | refine And.intro (Pur.mk rfl) ?_ | refine And.intro (Pur.mk (by assumption)) ?_)); ((try cbv) <;> (repeat ((with_reducible refine EW.of ?_); cbv))))
      (refine ⟨Ent.of (hP ▸ Try.func35) rfl, ?_⟩; refine TC.pureE h35 ?_; cbv; (repeat (first | exact trivial | refine And.intro (Emb.Pur _ _) ?_ | refine And.intro rfl ?_ | refine And.intro (Pur.mk rfl) ?_ | refine And.intro (Pur.mk (by assumption)) ?_)); ((try cbv) <;> (repeat ((with_reducible refine EW.of ?_); cbv))))
end Go.Proofs.Ytpjibokaeefhiaa
