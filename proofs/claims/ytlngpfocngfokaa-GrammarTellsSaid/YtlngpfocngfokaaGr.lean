import Derived.Test.YtlngpfocngfokaaGq
/-! The law about what grammars tell. -/
namespace Go.Proofs.Ytlngpfocngfokaa
open Go.Proofs.Ytlngpfocngfokaa.Tw
set_option maxHeartbeats 4000000 in
theorem law6 (A : Ar) (E : Em) (G : EmG) (H : EmN) (R : EmR) {P : Program} (hP : P = Try.prog) (g h : Gra) (hg : g.ok) (hh : h.ok) (k : Int) (s : ByteArray) : TPure P 6 [G.gv g, G.gv h, .int .i64 k, .str s] (.bool true) := by
  have h10 := Great10 A E G hP g hg
  have h10b := Great10 A E G hP h hh
  have h11 := wakes11 A E G H R hP
  have h16 := Find16 A E G H hP g hg s
  have h17 := Find17 A E G hP g hg s
  have h14 := Check14 A E G H hP g hg
  have h18 := Check18 A E G hP g hg
  have h19 := Text19 A E G H hP g hg k s
  have h20 := Text20 A E G hP g hg k s
  have h15 := Least15 A E G H hP g hg k
  have h21 := Least21 A E G hP g hg k
  have h22 := Same22 A E G hP g h hg
  have h23 := Same23 A E G hP g h hg
  have h22b := Same22 A E G hP g g hg
  rw [sameB_refl] at h22b
  generalize greatG g = b1 at h10
  generalize greatG h = b2 at h10b
  generalize foundI (findO g s) = n at h16 h17
  generalize (findO g s).isSome = b at h16 h17
  generalize errC (checkB g) = e at h14 h18
  generalize textB g k s = t at h19 h20
  generalize leastI A g k = m at h15 h21
  generalize sameB g h = q at h22 h23
  obtain ⟨ks, ro⟩ := g
  obtain ⟨ls, rp⟩ := h
  unfold EmG.gv at h10 h10b h16 h17 h14 h18 h19 h20 h15 h21 h22 h23 h22b ⊢
  dsimp only at h10 h10b h16 h17 h14 h18 h19 h20 h15 h21 h22 h23 h22b ⊢
  refine TPure.ofE A T0 (T0_ok hP) (hP ▸ Try.func6) rfl _ rfl (by simp) ?_
  cbv
  ((try cbv) <;> (repeat ((with_reducible refine EW.of ?_); cbv)))
  (refine ⟨Ent.of (hP ▸ Try.func10) rfl, ?_⟩; refine TC.pureE h10 ?_; cbv; (repeat (first | exact trivial | refine And.intro (Emb.Pur _ _) ?_ | refine And.intro rfl ?_ | refine And.intro (Pur.mk rfl) ?_ | refine And.intro (Pur.mk (by assumption)) ?_)); ((try cbv) <;> (repeat ((with_reducible refine EW.of ?_); cbv))))
  cases b1 with
  | true =>
    ((try cbv) <;> (repeat ((with_reducible refine EW.of ?_); cbv)))
    ((try cbv) <;> (repeat ((with_reducible refine EW.of ?_); cbv)))
    (refine ⟨Ent.of (hP ▸ Try.func11) rfl, ?_⟩; refine TC.pureE h11 ?_; cbv; (repeat (first | exact trivial | refine And.intro (Emb.Pur _ _) ?_ | refine And.intro rfl ?_ | refine And.intro (Pur.mk rfl) ?_ | refine And.intro (Pur.mk (by assumption)) ?_)); ((try cbv) <;> (repeat ((with_reducible refine EW.of ?_); cbv))))
  | false =>
    ((try cbv) <;> (repeat ((with_reducible refine EW.of ?_); cbv)))
    (refine ⟨Ent.of (hP ▸ Try.func10) rfl, ?_⟩; refine TC.pureE h10b ?_; cbv; (repeat (first | exact trivial | refine And.intro (Emb.Pur _ _) ?_ | refine And.intro rfl ?_ | refine And.intro (Pur.mk rfl) ?_ | refine And.intro (Pur.mk (by assumption)) ?_)); ((try cbv) <;> (repeat ((with_reducible refine EW.of ?_); cbv))))
    cases b2 with
    | true =>
      ((try cbv) <;> (repeat ((with_reducible refine EW.of ?_); cbv)))
      ((try cbv) <;> (repeat ((with_reducible refine EW.of ?_); cbv)))
      (refine ⟨Ent.of (hP ▸ Try.func11) rfl, ?_⟩; refine TC.pureE h11 ?_; cbv; (repeat (first | exact trivial | refine And.intro (Emb.Pur _ _) ?_ | refine And.intro rfl ?_ | refine And.intro (Pur.mk rfl) ?_ | refine And.intro (Pur.mk (by assumption)) ?_)); ((try cbv) <;> (repeat ((with_reducible refine EW.of ?_); cbv))))
    | false =>
      ((try cbv) <;> (repeat ((with_reducible refine EW.of ?_); cbv)))
      refine bsplit (fun h => ?_) (fun h => ?_)
      · skip
        ((try cbv) <;> (repeat ((with_reducible refine EW.of ?_); cbv)))
        (refine ⟨Ent.of (hP ▸ Try.func11) rfl, ?_⟩; refine TC.pureE h11 ?_; cbv; (repeat (first | exact trivial | refine And.intro (Emb.Pur _ _) ?_ | refine And.intro rfl ?_ | refine And.intro (Pur.mk rfl) ?_ | refine And.intro (Pur.mk (by assumption)) ?_)); ((try cbv) <;> (repeat ((with_reducible refine EW.of ?_); cbv))))
      ((try cbv) <;> (repeat ((with_reducible refine EW.of ?_); cbv)))
      (refine ⟨Ent.of (hP ▸ Try.func16) rfl, ?_⟩; refine TC.pureE h16 ?_; cbv; (repeat (first | exact trivial | refine And.intro (Emb.Pur _ _) ?_ | refine And.intro rfl ?_ | refine And.intro (Pur.mk rfl) ?_ | refine And.intro (Pur.mk (by assumption)) ?_)); ((try cbv) <;> (repeat ((with_reducible refine EW.of ?_); cbv))))
      (refine ⟨Ent.of (hP ▸ Try.func17) rfl, ?_⟩; refine TC.pureE h17 ?_; cbv; (repeat (first | exact trivial | refine And.intro (Emb.Pur _ _) ?_ | refine And.intro rfl ?_ | refine And.intro (Pur.mk rfl) ?_ | refine And.intro (Pur.mk (by assumption)) ?_)); ((try cbv) <;> (repeat ((with_reducible refine EW.of ?_); cbv))))
      (refine TW.draw (A := A) (T0_ok hP) (hP ▸ follows_mixed) (by kernel_rfl) rfl ?_; cbv)
      (refine ⟨Ent.of (hP ▸ Try.func14) rfl, ?_⟩; refine ⟨_, TC.pureX h14 (by cbv; (repeat (first | exact trivial | refine And.intro (Emb.Pur _ _) ?_ | refine And.intro rfl ?_ | refine And.intro (Pur.mk rfl) ?_ | refine And.intro (Pur.mk (by assumption)) ?_))), ?_⟩; cbv)
      (refine ⟨Ent.of (hP ▸ Try.func18) rfl, ?_⟩; refine ⟨_, TC.pureX h18 (by cbv; (repeat (first | exact trivial | refine And.intro (Emb.Pur _ _) ?_ | refine And.intro rfl ?_ | refine And.intro (Pur.mk rfl) ?_ | refine And.intro (Pur.mk (by assumption)) ?_))), ?_⟩; cbv)
      (first | refine byes (eqT rfl) ?_ | refine byes (beqT rfl) ?_)
      cbv
      (first | refine byes (eqT rfl) ?_ | refine byes (beqT rfl) ?_)
      cbv
      (first | refine byes (eqT rfl) ?_ | refine byes (beqT rfl) ?_)
      cbv
      (refine ⟨Ent.of (hP ▸ Try.func19) rfl, ?_⟩; refine ⟨_, TC.pureX h19 (by cbv; (repeat (first | exact trivial | refine And.intro (Emb.Pur _ _) ?_ | refine And.intro rfl ?_ | refine And.intro (Pur.mk rfl) ?_ | refine And.intro (Pur.mk (by assumption)) ?_))), ?_⟩; cbv)
      (refine ⟨Ent.of (hP ▸ Try.func20) rfl, ?_⟩; refine ⟨_, TC.pureX h20 (by cbv; (repeat (first | exact trivial | refine And.intro (Emb.Pur _ _) ?_ | refine And.intro rfl ?_ | refine And.intro (Pur.mk rfl) ?_ | refine And.intro (Pur.mk (by assumption)) ?_))), ?_⟩; cbv)
      (first | refine byes (eqT rfl) ?_ | refine byes (beqT rfl) ?_)
      cbv
      (refine ⟨Ent.of (hP ▸ Try.func15) rfl, ?_⟩; refine ⟨_, TC.pureX h15 (by cbv; (repeat (first | exact trivial | refine And.intro (Emb.Pur _ _) ?_ | refine And.intro rfl ?_ | refine And.intro (Pur.mk rfl) ?_ | refine And.intro (Pur.mk (by assumption)) ?_))), ?_⟩; cbv)
      (refine ⟨Ent.of (hP ▸ Try.func21) rfl, ?_⟩; refine ⟨_, TC.pureX h21 (by cbv; (repeat (first | exact trivial | refine And.intro (Emb.Pur _ _) ?_ | refine And.intro rfl ?_ | refine And.intro (Pur.mk rfl) ?_ | refine And.intro (Pur.mk (by assumption)) ?_))), ?_⟩; cbv)
      (first | refine byes (eqT rfl) ?_ | refine byes (beqT rfl) ?_)
      cbv
      (refine ⟨Ent.of (hP ▸ Try.func22) rfl, ?_⟩; refine ⟨_, TC.pureX h22 (by cbv; (repeat (first | exact trivial | refine And.intro (Emb.Pur _ _) ?_ | refine And.intro rfl ?_ | refine And.intro (Pur.mk rfl) ?_ | refine And.intro (Pur.mk (by assumption)) ?_))), ?_⟩; cbv)
      (refine ⟨Ent.of (hP ▸ Try.func23) rfl, ?_⟩; refine ⟨_, TC.pureX h23 (by cbv; (repeat (first | exact trivial | refine And.intro (Emb.Pur _ _) ?_ | refine And.intro rfl ?_ | refine And.intro (Pur.mk rfl) ?_ | refine And.intro (Pur.mk (by assumption)) ?_))), ?_⟩; cbv)
      (first | refine byes (eqT rfl) ?_ | refine byes (beqT rfl) ?_)
      cbv
      (refine ⟨Ent.of (hP ▸ Try.func22) rfl, ?_⟩; refine ⟨_, TC.pureX h22b (by cbv; (repeat (first | exact trivial | refine And.intro (Emb.Pur _ _) ?_ | refine And.intro rfl ?_ | refine And.intro (Pur.mk rfl) ?_ | refine And.intro (Pur.mk (by assumption)) ?_))), ?_⟩; cbv)
      (refine ⟨Ent.of (hP ▸ Try.func11) rfl, ?_⟩; refine ⟨_, TC.pureX h11 (by cbv; (repeat (first | exact trivial | refine And.intro (Emb.Pur _ _) ?_ | refine And.intro rfl ?_ | refine And.intro (Pur.mk rfl) ?_ | refine And.intro (Pur.mk (by assumption)) ?_))), ?_⟩; cbv)
      ((try cbv) <;> (repeat ((with_reducible refine EW.of ?_); cbv)))
end Go.Proofs.Ytlngpfocngfokaa
