import Derived.Test.YtlngpfocngfokaaGm
/-! The law about rows that fit. -/
namespace Go.Proofs.Ytlngpfocngfokaa
open Go.Proofs.Ytlngpfocngfokaa.Tw
set_option maxHeartbeats 4000000 in
theorem law3 (A : Ar) (E : Em) (G : EmG) (H : EmN) (R : EmR) {P : Program} (hP : P = Try.prog) (g : Gra) (hg : g.ok) (k : Int) (kids : List Int) (hkl : kids.length ≤ 9223372036854775807) : TPure P 3 [G.gv g, .int .i64 k, .sl 1 (E.int.l kids)] (.bool true) := by
  have h10 := Great10 A E G hP g hg
  have h12 := Fits12 A E G H R hP g hg k kids hkl
  have h13 := Fits13 A E G R hP g hg k kids hkl
  have h11 := wakes11 A E G H R hP
  have hll := E.int.len kids
  have hlk : A.len (E.int.l kids) = (kids.length : Int) := by rw [A.ok_len, hll]
  obtain ⟨r, hr⟩ : ∃ r, r = fitsB g k kids := ⟨_, rfl⟩
  rw [← hr] at h12 h13
  obtain ⟨b, hb⟩ : ∃ b, b = greatG g := ⟨_, rfl⟩
  rw [← hb] at h10
  obtain ⟨ks, root⟩ := g
  unfold EmG.gv at h10 h12 h13 ⊢
  dsimp only at h10 h12 h13 ⊢
  have hk := G.kind.Pur ks
  have hi := E.int.Pur kids
  have q : ∀ x : Bool, (x == x) = true := fun x => by cases x <;> rfl
  refine TPure.ofE A T0 (T0_ok hP) (hP ▸ Try.func3) rfl _ rfl (by simp) ?_
  cbv
  ((try cbv) <;> (repeat ((with_reducible refine EW.of ?_); cbv)))
  (refine ⟨Ent.of (hP ▸ Try.func10) rfl, ?_⟩; refine TC.pureE h10 ?_; cbv; (repeat (first | exact trivial | refine And.intro (Emb.Pur _ _) ?_ | refine And.intro rfl ?_ | refine And.intro (Pur.mk rfl) ?_ | refine And.intro (Pur.mk (by assumption)) ?_)); ((try cbv) <;> (repeat ((with_reducible refine EW.of ?_); cbv))))
  cases b with
  | true =>
    ((try cbv) <;> (repeat ((with_reducible refine EW.of ?_); cbv)))
    ((try cbv) <;> (repeat ((with_reducible refine EW.of ?_); cbv)))
    (refine ⟨Ent.of (hP ▸ Try.func11) rfl, ?_⟩; refine TC.pureE h11 ?_; cbv; (repeat (first | exact trivial | refine And.intro (Emb.Pur _ _) ?_ | refine And.intro rfl ?_ | refine And.intro (Pur.mk rfl) ?_ | refine And.intro (Pur.mk (by assumption)) ?_)); ((try cbv) <;> (repeat ((with_reducible refine EW.of ?_); cbv))))
  | false =>
    ((try cbv) <;> (repeat ((with_reducible refine EW.of ?_); cbv)))
    refine bsplit (fun h => ?_) (fun h => ?_)
    · skip
      ((try cbv) <;> (repeat ((with_reducible refine EW.of ?_); cbv)))
      (refine ⟨Ent.of (hP ▸ Try.func11) rfl, ?_⟩; refine TC.pureE h11 ?_; cbv; (repeat (first | exact trivial | refine And.intro (Emb.Pur _ _) ?_ | refine And.intro rfl ?_ | refine And.intro (Pur.mk rfl) ?_ | refine And.intro (Pur.mk (by assumption)) ?_)); ((try cbv) <;> (repeat ((with_reducible refine EW.of ?_); cbv))))
    ((try cbv) <;> (repeat ((with_reducible refine EW.of ?_); cbv)))
    (refine TW.draw (A := A) (T0_ok hP) (hP ▸ follows_mixed) (by kernel_rfl) rfl ?_; cbv)
    (refine ⟨Ent.of (hP ▸ Try.func12) rfl, ?_⟩; refine ⟨_, TC.pureX h12 (by cbv; (repeat (first | exact trivial | refine And.intro (Emb.Pur _ _) ?_ | refine And.intro rfl ?_ | refine And.intro (Pur.mk rfl) ?_ | refine And.intro (Pur.mk (by assumption)) ?_))), ?_⟩; cbv)
    (refine ⟨Ent.of (hP ▸ Try.func13) rfl, ?_⟩; refine ⟨_, TC.pureX h13 (by cbv; (repeat (first | exact trivial | refine And.intro (Emb.Pur _ _) ?_ | refine And.intro rfl ?_ | refine And.intro (Pur.mk rfl) ?_ | refine And.intro (Pur.mk (by assumption)) ?_))), ?_⟩; cbv)
    (first | refine byes (eqT rfl) ?_ | refine byes (beqT rfl) ?_)
    cbv
    (refine ⟨Ent.of (hP ▸ Try.func11) rfl, ?_⟩; refine ⟨_, TC.pureX h11 (by cbv; (repeat (first | exact trivial | refine And.intro (Emb.Pur _ _) ?_ | refine And.intro rfl ?_ | refine And.intro (Pur.mk rfl) ?_ | refine And.intro (Pur.mk (by assumption)) ?_))), ?_⟩; cbv)
    ((try cbv) <;> (repeat ((with_reducible refine EW.of ?_); cbv)))
end Go.Proofs.Ytlngpfocngfokaa
