import Derived.Test.YtpjibokaeefhiaaLs
/-! wakes: what the document says of a tree of five nodes. -/
namespace Go.Proofs.Ytpjibokaeefhiaa
open Go.Proofs.Ytpjibokaeefhiaa.Tw
theorem within_some : within 4 someT := by
  simp only [someT, leaf, within]
  refine ⟨by decide, fun t ht => ?_⟩
  rcases List.mem_cons.1 ht with rfl | ht
  · exact ⟨by decide, fun t ht => by cases ht⟩
  · rcases List.mem_cons.1 ht with rfl | ht
    · refine ⟨by decide, fun t ht => ?_⟩
      rcases List.mem_cons.1 ht with rfl | ht
      · exact ⟨by decide, fun t ht => by cases ht⟩
      · rcases List.mem_cons.1 ht with rfl | ht
        · exact ⟨by decide, fun t ht => by cases ht⟩
        · cases ht
    · cases ht
set_option maxHeartbeats 8000000 in
theorem wakes14 (A : Ar) (E : Em) {P : Program} (hP : P = Try.prog) : TPure P 14 [] (.bool true) := by
  refine TPure.ofE A T0 (T0_ok hP) (hP ▸ Try.func14) rfl _ rfl (by simp) ?_
  have h56 := some56 A hP
  have h15 := Parent15 A hP 5 4 (by decide) someT within_some
  have h26 := Path26 A hP 5 4 (by decide) someT within_some
  have h25a := Common25 A E hP 4 5 4 (by decide) someT within_some
  have h25b := Common25 A E hP 2 5 4 (by decide) someT within_some
  have h19 := above19 A E hP 4 4 (by decide) someT within_some
  have h21a := Within21 A hP 3 4 4 (by decide) someT within_some
  have h21b := Within21 A hP 2 4 4 (by decide) someT within_some
  have h18a := ints18 A hP [1, 1] [1, 1] (by decide)
  have h18b := ints18 A hP [3, 1] [3, 1] (by decide)
  rw [show parentS someT 5 = (3, 1, true) from rfl] at h15
  rw [show pathT 5 someT = some [1, 1] from rfl] at h26
  rw [show commonS someT 4 5 = (3, true) from rfl] at h25a
  rw [show commonS someT 2 5 = (1, true) from rfl] at h25b
  rw [show aboveS someT 4 = [3, 1] from rfl] at h19
  rw [show withinS someT 3 4 = true from rfl] at h21a
  rw [show withinS someT 2 4 = false from rfl] at h21b
  rw [show ([1, 1] == ([1, 1] : List Int)) = true from rfl] at h18a
  rw [show ([3, 1] == ([3, 1] : List Int)) = true from rfl] at h18b
  simp only [E.av, E.ints, parentAV, pathAV] at h56 h15 h26 h21a h21b h18a h18b
  obtain ⟨K, hK⟩ : ∃ K, K = [leaf 2, .node 3 0 ⟨#[]⟩ [leaf 4, leaf 5]] := ⟨_, rfl⟩
  have hT : someT = .node 1 0 ⟨#[]⟩ K := by rw [hK]; rfl
  simp only [hT, E.node] at h56 h15 h26 h25a h25b h19 h21a h21b
  have e11 : E.int.l [1, 1] = [.int .i64 1, .int .i64 1] := by simp only [E.int.cons, E.int.nil, E.iv]
  have e31 : E.int.l [3, 1] = [.int .i64 3, .int .i64 1] := by simp only [E.int.cons, E.int.nil, E.iv]
  simp only [Option.getD_some, Option.isSome_some, e11] at h26
  simp only [e11] at h18a
  simp only [e31] at h18b h19
  cbv
  ((try cbv) <;> (repeat ((with_reducible refine EW.of ?_); cbv)))
  (refine ⟨Ent.of (hP ▸ Try.func56) rfl, ?_⟩; refine TC.pureE h56 ?_; cbv; (repeat (first | exact trivial | refine And.intro (Emb.Pur _ _) ?_ | refine And.intro rfl ?_ | refine And.intro (Pur.mk rfl) ?_ | refine And.intro (Pur.mk (by assumption)) ?_)); ((try cbv) <;> (repeat ((with_reducible refine EW.of ?_); cbv))))
  (refine ⟨Ent.of (hP ▸ Try.func15) rfl, ?_⟩; refine TC.pureE h15 ?_; cbv; (repeat (first | exact trivial | refine And.intro (Emb.Pur _ _) ?_ | refine And.intro rfl ?_ | refine And.intro (Pur.mk rfl) ?_ | refine And.intro (Pur.mk (by assumption)) ?_)); ((try cbv) <;> (repeat ((with_reducible refine EW.of ?_); cbv))))
  (refine ⟨Ent.of (hP ▸ Try.func56) rfl, ?_⟩; refine TC.pureE h56 ?_; cbv; (repeat (first | exact trivial | refine And.intro (Emb.Pur _ _) ?_ | refine And.intro rfl ?_ | refine And.intro (Pur.mk rfl) ?_ | refine And.intro (Pur.mk (by assumption)) ?_)); ((try cbv) <;> (repeat ((with_reducible refine EW.of ?_); cbv))))
  (refine ⟨Ent.of (hP ▸ Try.func26) rfl, ?_⟩; refine TC.pureE h26 ?_; cbv; (repeat (first | exact trivial | refine And.intro (Emb.Pur _ _) ?_ | refine And.intro rfl ?_ | refine And.intro (Pur.mk rfl) ?_ | refine And.intro (Pur.mk (by assumption)) ?_)); ((try cbv) <;> (repeat ((with_reducible refine EW.of ?_); cbv))))
  (refine ⟨Ent.of (hP ▸ Try.func56) rfl, ?_⟩; refine TC.pureE h56 ?_; cbv; (repeat (first | exact trivial | refine And.intro (Emb.Pur _ _) ?_ | refine And.intro rfl ?_ | refine And.intro (Pur.mk rfl) ?_ | refine And.intro (Pur.mk (by assumption)) ?_)); ((try cbv) <;> (repeat ((with_reducible refine EW.of ?_); cbv))))
  (refine ⟨Ent.of (hP ▸ Try.func25) rfl, ?_⟩; refine TC.pureE h25a ?_; cbv; (repeat (first | exact trivial | refine And.intro (Emb.Pur _ _) ?_ | refine And.intro rfl ?_ | refine And.intro (Pur.mk rfl) ?_ | refine And.intro (Pur.mk (by assumption)) ?_)); ((try cbv) <;> (repeat ((with_reducible refine EW.of ?_); cbv))))
  (refine ⟨Ent.of (hP ▸ Try.func56) rfl, ?_⟩; refine TC.pureE h56 ?_; cbv; (repeat (first | exact trivial | refine And.intro (Emb.Pur _ _) ?_ | refine And.intro rfl ?_ | refine And.intro (Pur.mk rfl) ?_ | refine And.intro (Pur.mk (by assumption)) ?_)); ((try cbv) <;> (repeat ((with_reducible refine EW.of ?_); cbv))))
  (refine ⟨Ent.of (hP ▸ Try.func25) rfl, ?_⟩; refine TC.pureE h25b ?_; cbv; (repeat (first | exact trivial | refine And.intro (Emb.Pur _ _) ?_ | refine And.intro rfl ?_ | refine And.intro (Pur.mk rfl) ?_ | refine And.intro (Pur.mk (by assumption)) ?_)); ((try cbv) <;> (repeat ((with_reducible refine EW.of ?_); cbv))))
  (first | refine byes (eqT rfl) ?_ | refine byes (beqT rfl) ?_)
  cbv
  (first | refine byes (eqT rfl) ?_ | refine byes (beqT rfl) ?_)
  cbv
  (refine ⟨Ent.of (hP ▸ Try.func18) rfl, ?_⟩; refine TC.pureE h18a ?_; cbv; (repeat (first | exact trivial | refine And.intro (Emb.Pur _ _) ?_ | refine And.intro rfl ?_ | refine And.intro (Pur.mk rfl) ?_ | refine And.intro (Pur.mk (by assumption)) ?_)); ((try cbv) <;> (repeat ((with_reducible refine EW.of ?_); cbv))))
  (first | refine byes (eqT rfl) ?_ | refine byes (beqT rfl) ?_)
  cbv
  (first | refine byes (eqT rfl) ?_ | refine byes (beqT rfl) ?_)
  cbv
  (refine ⟨Ent.of (hP ▸ Try.func56) rfl, ?_⟩; refine TC.pureE h56 ?_; cbv; (repeat (first | exact trivial | refine And.intro (Emb.Pur _ _) ?_ | refine And.intro rfl ?_ | refine And.intro (Pur.mk rfl) ?_ | refine And.intro (Pur.mk (by assumption)) ?_)); ((try cbv) <;> (repeat ((with_reducible refine EW.of ?_); cbv))))
  (refine ⟨Ent.of (hP ▸ Try.func19) rfl, ?_⟩; refine TC.pureE h19 ?_; cbv; (repeat (first | exact trivial | refine And.intro (Emb.Pur _ _) ?_ | refine And.intro rfl ?_ | refine And.intro (Pur.mk rfl) ?_ | refine And.intro (Pur.mk (by assumption)) ?_)); ((try cbv) <;> (repeat ((with_reducible refine EW.of ?_); cbv))))
  (refine ⟨Ent.of (hP ▸ Try.func18) rfl, ?_⟩; refine TC.pureE h18b ?_; cbv; (repeat (first | exact trivial | refine And.intro (Emb.Pur _ _) ?_ | refine And.intro rfl ?_ | refine And.intro (Pur.mk rfl) ?_ | refine And.intro (Pur.mk (by assumption)) ?_)); ((try cbv) <;> (repeat ((with_reducible refine EW.of ?_); cbv))))
  (refine ⟨Ent.of (hP ▸ Try.func56) rfl, ?_⟩; refine TC.pureE h56 ?_; cbv; (repeat (first | exact trivial | refine And.intro (Emb.Pur _ _) ?_ | refine And.intro rfl ?_ | refine And.intro (Pur.mk rfl) ?_ | refine And.intro (Pur.mk (by assumption)) ?_)); ((try cbv) <;> (repeat ((with_reducible refine EW.of ?_); cbv))))
  (refine ⟨Ent.of (hP ▸ Try.func21) rfl, ?_⟩; refine TC.pureE h21a ?_; cbv; (repeat (first | exact trivial | refine And.intro (Emb.Pur _ _) ?_ | refine And.intro rfl ?_ | refine And.intro (Pur.mk rfl) ?_ | refine And.intro (Pur.mk (by assumption)) ?_)); ((try cbv) <;> (repeat ((with_reducible refine EW.of ?_); cbv))))
  (refine ⟨Ent.of (hP ▸ Try.func56) rfl, ?_⟩; refine TC.pureE h56 ?_; cbv; (repeat (first | exact trivial | refine And.intro (Emb.Pur _ _) ?_ | refine And.intro rfl ?_ | refine And.intro (Pur.mk rfl) ?_ | refine And.intro (Pur.mk (by assumption)) ?_)); ((try cbv) <;> (repeat ((with_reducible refine EW.of ?_); cbv))))
  (refine ⟨Ent.of (hP ▸ Try.func21) rfl, ?_⟩; refine TC.pureE h21b ?_; cbv; (repeat (first | exact trivial | refine And.intro (Emb.Pur _ _) ?_ | refine And.intro rfl ?_ | refine And.intro (Pur.mk rfl) ?_ | refine And.intro (Pur.mk (by assumption)) ?_)); ((try cbv) <;> (repeat ((with_reducible refine EW.of ?_); cbv))))
  trace_state
end Go.Proofs.Ytpjibokaeefhiaa
