import Derived.Test.YtpjibokaeefhiaaOu
import Derived.Test.YtpjibokaeefhiaaOl
/-! The document's example, walked. -/
namespace Go.Proofs.Ytpjibokaeefhiaa
open Go.Proofs.Ytpjibokaeefhiaa.Tw
def one12 : Lease := ⟨1, 2, 1, 1, 1⟩
set_option maxHeartbeats 1000000 in
theorem wakes35 (A : Ar) {P : Program} (hP : P = Try.prog) : TPure P 35 [] (.bool true) := by
  refine TPure.ofE A T0 (T0_ok hP) (hP ▸ Try.func35) rfl _ rfl (by simp) ?_
  have hw16 : within 10 some16 := by simp [within, some16, leaf]
  have h65 := some65 A hP
  have h46 := one46 A hP 1 2
  have h36 := Add36 A em0 emL0 hP 10 (by omega) some16 hw16 [] (by decide) one12
  rw [show addS some16 [] one12 = ([one12], 0) from by decide] at h36
  have h51a := Way51 A em0 emL0 hP 10 (by omega) some16 hw16 [one12] (by decide) 3
  have h51b := Way51 A em0 emL0 hP 10 (by omega) some16 hw16 [one12] (by decide) 1
  have h51c := Way51 A em0 emL0 hP 10 (by omega) some16 hw16 [one12] (by decide) 4
  have h39 := NewAges39 A hP 2 (by omega) (by omega)
  rw [show ([one12].find? fun x => withinS some16 x.root 3 || withinS some16 3 x.root) = some one12 from by decide] at h51a
  rw [show ([one12].find? fun x => withinS some16 x.root 1 || withinS some16 1 x.root) = some one12 from by decide] at h51b
  rw [show ([one12].find? fun x => withinS some16 x.root 4 || withinS some16 4 x.root) = none from by decide] at h51c
  unfold EmL.added at h36
  dsimp only at h36
  unfold one12 at *
  rw [emL0.row, emL0.l.nil] at h36
  rw [emL0.found_some] at h51a h51b
  rw [emL0.found_none] at h51c
  rw [← em0.av] at h36 h51a h51b h51c
  rw [em0.av] at h36 h51a h51b h51c h65
  unfold some16 at *
  rw [em0.node] at h36 h51a h51b h51c h65
  have hp1 := em0.tree.Pur [.node 2 0 ⟨#[]⟩ [leaf 3], leaf 4]
  generalize em0.tree.l [.node 2 0 ⟨#[]⟩ [leaf 3], leaf 4] = T1 at *
  have h42a := Tick42 A em0 emL0 emE0 hP [⟨1, 2, 1, 1, 1⟩] (by decide) 2 0 [] 1 (by omega) (by omega) ⟨by simp, by simp, by simp, by simp, by simp⟩ 1 [(0, 1, 1)] [] (by decide)
  have h42b := Tick42 A em0 emL0 emE0 hP [⟨1, 2, 1, 1, 1⟩] (by decide) 2 1 [(0, 1, 1)] 1 (by omega) (by omega) ⟨by simp, by simp, by simp, by simp, by simp⟩ 1 [(0, 1, 2)] [1] (by decide)
  have h42c := Tick42 A em0 emL0 emE0 hP [⟨1, 2, 1, 1, 1⟩] (by decide) 2 1 [(0, 1, 2)] 2 (by omega) (by omega) ⟨by simp, by simp, by simp, by simp, by simp⟩ 1 [(0, 1, 3)] [1] (by decide)
  have h44 := Age44 A hP 2 1 (emE0.l [(0, 1, 3)]) 1 3 ⟨rfl, by simp [emE0, ent3]; rfl⟩ (emE0.pur _) (by rw [emE0.ok]; exact age_ent 1 [(0, 1, 3)])
  rw [show emE0.l [] = [] from rfl] at h42a
  have hq1 := emE0.pur [(0, 1, 1)]
  have hq2 := emE0.pur [(0, 1, 2)]
  have hq3 := emE0.pur [(0, 1, 3)]
  generalize emE0.l [(0, 1, 1)] = M1 at *
  generalize emE0.l [(0, 1, 2)] = M2 at *
  generalize emE0.l [(0, 1, 3)] = M3 at *
  rw [em0.int.nil] at h42a
  rw [em0.int.cons, em0.iv, em0.int.nil] at h42b h42c
  have hr1 := emL0.l.Pur [⟨1, 2, 1, 1, 1⟩]
  generalize emL0.l.l [⟨1, 2, 1, 1, 1⟩] = R1 at *
  cbv
  ((try cbv) <;> (repeat ((with_reducible refine EW.of ?_); cbv)))
  (refine ⟨Ent.of (hP ▸ Try.func65) rfl, ?_⟩; refine TC.pureE h65 ?_; cbv; (repeat (first | exact trivial | refine And.intro (Emb.Pur _ _) ?_ | refine And.intro rfl ?_ | refine And.intro (Pur.mk rfl) ?_ | refine And.intro (Pur.mk (by assumption)) ?_)); ((try cbv) <;> (repeat ((with_reducible refine EW.of ?_); cbv))))
  (refine ⟨Ent.of (hP ▸ Try.func46) rfl, ?_⟩; refine TC.pureE h46 ?_; cbv; (repeat (first | exact trivial | refine And.intro (Emb.Pur _ _) ?_ | refine And.intro rfl ?_ | refine And.intro (Pur.mk rfl) ?_ | refine And.intro (Pur.mk (by assumption)) ?_)); ((try cbv) <;> (repeat ((with_reducible refine EW.of ?_); cbv))))
  (refine ⟨Ent.of (hP ▸ Try.func36) rfl, ?_⟩; refine TC.pureE h36 ?_; cbv; (repeat (first | exact trivial | refine And.intro (Emb.Pur _ _) ?_ | refine And.intro rfl ?_ | refine And.intro (Pur.mk rfl) ?_ | refine And.intro (Pur.mk (by assumption)) ?_)); ((try cbv) <;> (repeat ((with_reducible refine EW.of ?_); cbv))))
  refine And.intro hp1 ?_
  ((try cbv) <;> (repeat ((with_reducible refine EW.of ?_); cbv)))
  (refine ⟨Ent.of (hP ▸ Try.func65) rfl, ?_⟩; refine TC.pureE h65 ?_; cbv; (repeat (first | exact trivial | refine And.intro (Emb.Pur _ _) ?_ | refine And.intro rfl ?_ | refine And.intro (Pur.mk rfl) ?_ | refine And.intro (Pur.mk (by assumption)) ?_)); ((try cbv) <;> (repeat ((with_reducible refine EW.of ?_); cbv))))
  (refine ⟨Ent.of (hP ▸ Try.func51) rfl, ?_⟩; refine TC.pureE h51a ?_; cbv; (repeat (first | exact trivial | refine And.intro (Emb.Pur _ _) ?_ | refine And.intro rfl ?_ | refine And.intro (Pur.mk rfl) ?_ | refine And.intro (Pur.mk (by assumption)) ?_)); ((try cbv) <;> (repeat ((with_reducible refine EW.of ?_); cbv))))
  (repeat (first | refine And.intro hp1 ?_ | refine And.intro hr1 ?_))
  ((try cbv) <;> (repeat ((with_reducible refine EW.of ?_); cbv)))
  (refine ⟨Ent.of (hP ▸ Try.func65) rfl, ?_⟩; refine TC.pureE h65 ?_; cbv; (repeat (first | exact trivial | refine And.intro (Emb.Pur _ _) ?_ | refine And.intro rfl ?_ | refine And.intro (Pur.mk rfl) ?_ | refine And.intro (Pur.mk (by assumption)) ?_)); ((try cbv) <;> (repeat ((with_reducible refine EW.of ?_); cbv))))
  (refine ⟨Ent.of (hP ▸ Try.func51) rfl, ?_⟩; refine TC.pureE h51b ?_; cbv; (repeat (first | exact trivial | refine And.intro (Emb.Pur _ _) ?_ | refine And.intro rfl ?_ | refine And.intro (Pur.mk rfl) ?_ | refine And.intro (Pur.mk (by assumption)) ?_)); ((try cbv) <;> (repeat ((with_reducible refine EW.of ?_); cbv))))
  (repeat (first | refine And.intro hp1 ?_ | refine And.intro hr1 ?_))
  ((try cbv) <;> (repeat ((with_reducible refine EW.of ?_); cbv)))
  (refine ⟨Ent.of (hP ▸ Try.func65) rfl, ?_⟩; refine TC.pureE h65 ?_; cbv; (repeat (first | exact trivial | refine And.intro (Emb.Pur _ _) ?_ | refine And.intro rfl ?_ | refine And.intro (Pur.mk rfl) ?_ | refine And.intro (Pur.mk (by assumption)) ?_)); ((try cbv) <;> (repeat ((with_reducible refine EW.of ?_); cbv))))
  (refine ⟨Ent.of (hP ▸ Try.func51) rfl, ?_⟩; refine TC.pureE h51c ?_; cbv; (repeat (first | exact trivial | refine And.intro (Emb.Pur _ _) ?_ | refine And.intro rfl ?_ | refine And.intro (Pur.mk rfl) ?_ | refine And.intro (Pur.mk (by assumption)) ?_)); ((try cbv) <;> (repeat ((with_reducible refine EW.of ?_); cbv))))
  (repeat (first | refine And.intro hp1 ?_ | refine And.intro hr1 ?_))
  ((try cbv) <;> (repeat ((with_reducible refine EW.of ?_); cbv)))
  refine ⟨Ent.of (hP ▸ Try.func39) rfl, ?_⟩
  refine TC1.call [] h39 ?_
  cbv
  refine And.intro ⟨fun x h => by cases h⟩ ?_
  ((try cbv) <;> (repeat ((with_reducible refine EW.of ?_); cbv)))
  refine bno (neF rfl) ?_
  ((try cbv) <;> (repeat ((with_reducible refine EW.of ?_); cbv)))
  refine bno (neF rfl) ?_
  ((try cbv) <;> (repeat ((with_reducible refine EW.of ?_); cbv)))
  refine And.intro (Ent.of (hP ▸ Try.func42) rfl) ?_
  refine TC1.call [3, 4] h42a ?_
  cbv
  refine And.intro ⟨fun x h => by cases h⟩ ?_
  (repeat (first | refine And.intro hp1 ?_ | refine And.intro hr1 ?_ | refine And.intro hq1 ?_ | refine And.intro hq2 ?_ | refine And.intro hq3 ?_ | refine And.intro rfl ?_ | refine And.intro (Pur.mk rfl) ?_))
  ((try cbv) <;> (repeat ((with_reducible refine EW.of ?_); cbv)))
  refine And.intro (Ent.of (hP ▸ Try.func42) rfl) ?_
  refine TC1.call [3, 4] h42b ?_
  cbv
  (repeat (first | refine And.intro hp1 ?_ | refine And.intro hr1 ?_ | refine And.intro hq1 ?_ | refine And.intro hq2 ?_ | refine And.intro hq3 ?_ | refine And.intro rfl ?_ | refine And.intro (Pur.mk rfl) ?_))
  ((try cbv) <;> (repeat ((with_reducible refine EW.of ?_); cbv)))
  refine And.intro (Ent.of (hP ▸ Try.func42) rfl) ?_
  refine TC1.call [3, 4] h42c ?_
  cbv
  (repeat (first | refine And.intro hp1 ?_ | refine And.intro hr1 ?_ | refine And.intro hq1 ?_ | refine And.intro hq2 ?_ | refine And.intro hq3 ?_ | refine And.intro rfl ?_ | refine And.intro (Pur.mk rfl) ?_))
  ((try cbv) <;> (repeat ((with_reducible refine EW.of ?_); cbv)))
  (first | refine byes (eqT rfl) ?_ | refine byes (beqT rfl) ?_)
  ((try cbv) <;> (repeat ((with_reducible refine EW.of ?_); cbv)))
  refine byes (eqT (A.ok_len _)) ?_
  ((try cbv) <;> (repeat ((with_reducible refine EW.of ?_); cbv)))
  refine byes (eqT (A.ok_len _)) ?_
  ((try cbv) <;> (repeat ((with_reducible refine EW.of ?_); cbv)))
  refine ⟨0, _, rfl, rfl, ?_⟩
  cbv
  ((try cbv) <;> (repeat ((with_reducible refine EW.of ?_); cbv)))
  (first | refine byes (eqT rfl) ?_ | refine byes (beqT rfl) ?_)
  ((try cbv) <;> (repeat ((with_reducible refine EW.of ?_); cbv)))
  refine byes (eqT (A.ok_len _)) ?_
  ((try cbv) <;> (repeat ((with_reducible refine EW.of ?_); cbv)))
  refine And.intro (Ent.of (hP ▸ Try.func44) rfl) ?_
  refine TC1.call [3, 4] h44 ?_
  cbv
  (repeat (first | refine And.intro hp1 ?_ | refine And.intro hr1 ?_ | refine And.intro hq1 ?_ | refine And.intro hq2 ?_ | refine And.intro hq3 ?_ | refine And.intro rfl ?_ | refine And.intro (Pur.mk rfl) ?_))
  ((try cbv) <;> (repeat ((with_reducible refine EW.of ?_); cbv)))
  exact And.intro (eqT rfl) trivial
end Go.Proofs.Ytpjibokaeefhiaa
