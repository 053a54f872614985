import Derived.Test.YtmbbdabcbnemiaaRp
/-! CodePuts, walked whole. -/
namespace Go.Proofs.Ytmbbdabcbnemiaa
open Go.Proofs.Ytmbbdabcbnemiaa.Tw
theorem TW.vsE {P : Program} {r : Option Nat} {K : Nat} {c : Code} {Q : AEx → AFr → Store → Prop} {fr : AFr} {L : Store} (l' : List (Nat × AV)) (L' : Store) (n : Nat) (hn : fr.n = n) (h : eVS false K (autoπ K fr L l' L') fr L l' L' (TW P r K c Q ⟨n, l'⟩ L')) : TW P r K c Q fr L := by
  obtain ⟨h1, h2⟩ := eVS_ok h
  subst hn
  exact ⟨Tw.vs h1 h2.h⟩
set_option maxHeartbeats 4000000 in
theorem lawPuts (A : Ar) (E : Em) (B : EmB) (F : EmS) {P : Program} (hP : P = Try.prog) (bs : List UInt8) (n : Int) (s : ByteArray) (t : Tree) (hok : t.ok) (l : List Stp) (hokl : ∀ x ∈ l, x.sub.ok) : TPure P 3 [.sl 1 (B.l.l bs), .int .i64 n, .str s, E.tree.v t, .sl 9 (F.l.l l)] (.bool true) := by
  have h9 := wakes9 A B hP
  have h7 := Great7 A E hP t hok
  have h8 := GreatSteps8 A E F hP l hokl
  have hll := B.l.len bs
  have hlk : A.len (B.l.l bs) = (bs.length : Int) := by rw [A.ok_len, hll]
  obtain ⟨g3, hg3⟩ : ∃ g, g = great3 t := ⟨_, rfl⟩
  obtain ⟨gs, hgs⟩ : ∃ g, g = greatS l := ⟨_, rfl⟩
  rw [← hg3] at h7
  rw [← hgs] at h8
  have hN := fun (hb : bs.length ≤ 1000) => Number10 A B hP bs (by omega) n _ rfl
  have hNr := fun (hb : bs.length ≤ 1000) => Number11 A B hP bs (by omega) n _ rfl
  have hT := fun (hb : bs.length ≤ 1000) (hs : s.size ≤ 1000) => Text12 A B hP bs (by omega) s (by omega) _ rfl
  have hTr := fun (hb : bs.length ≤ 1000) (hs : s.size ≤ 1000) => Text13 A B hP bs (by omega) s (by omega) _ rfl
  have hlen : bs.length ≤ 1000 → g3 = false → (bs ++ nodeBs t).length ≤ 100000 := fun hb h => by
    have := great3_len (by rw [← hg3, h])
    rw [List.length_append]; omega
  have hlenS : bs.length ≤ 1000 → gs = false → (bs ++ (numBs l.length ++ stepsBs l)).length ≤ 3000000 := fun hb h => by
    have := (greatS_len (by rw [← hgs, h])).2
    rw [List.length_append, List.length_append, numBs_len]; omega
  have hD := fun (hb : bs.length ≤ 1000) (h : g3 = false) => Node14 A E B hP bs (by omega) t _ rfl (by have := hlen hb h; omega)
  have hDr := fun (hb : bs.length ≤ 1000) (h : g3 = false) => Node15 A E B hP _ t (Nat.le_refl _) bs _ rfl (by have := hlen hb h; omega)
  have hS := fun (hb : bs.length ≤ 1000) (h : gs = false) => Steps16 A E B F hP l bs _ rfl (by have := hlenS hb h; omega)
  have hSr := fun (hb : bs.length ≤ 1000) (h : gs = false) => Steps17 A E B F hP l bs _ rfl (by have := hlenS hb h; omega)
  generalize bs ++ numBs n = rN at hN hNr
  generalize bs ++ (numBs s.size ++ s.data.toList) = rT at hT hTr
  generalize bs ++ nodeBs t = rD at hD hDr
  generalize bs ++ (numBs l.length ++ stepsBs l) = rS at hS hSr
  clear hlen hlenS hg3 hgs hok hokl
  obtain ⟨i, k, st, ks⟩ := t
  rw [E.node] at h7 ⊢
  refine TPure.ofE A T0 (T0_ok hP) (hP ▸ Try.func3) rfl _ rfl (by simp) ?_
  cbv
  refine EW.vs [(10, .bool false), (8, .imm [.int .i64 i, .int .i64 k, .str st, .sl 4 (E.tree.l ks)]), (0, .sl 1 (B.l.l bs)), (1, .int .i64 n), (2, .str s), (4, .sl 9 (F.l.l l))] [] 88 rfl ?_
  cbv
  (repeat (first | exact trivial | refine And.intro (Emb.Pur _ _) ?_ | refine And.intro rfl ?_ | refine And.intro (Pur.mk (by (repeat (first | exact rfl | exact Emb.purL _ _ | assumption | apply pur_cons | apply pur_sl | apply pur_slt | apply pur_agg | apply pur_tup)))) ?_))
  refine bsplit (fun h1 => ?_) (fun h1 => ?_)
  · skip
    cbv
    ((try cbv) <;> (repeat ((with_reducible refine EW.of ?_); cbv)))
    (refine ⟨Ent.of (hP ▸ Try.func9) rfl, ?_⟩; refine TC.pureE h9 ?_; cbv; (repeat (first | exact trivial | refine And.intro (Emb.Pur _ _) ?_ | refine And.intro rfl ?_ | refine And.intro (Pur.mk rfl) ?_ | refine And.intro (Pur.mk (by assumption)) ?_)); ((try cbv) <;> (repeat ((with_reducible refine EW.of ?_); cbv))))
  have h1 : bs.length ≤ 1000 := lt_nf (i := 1000) h1 rfl hlk
  cbv
  refine bsplit (fun h2 => ?_) (fun h2 => ?_)
  · skip
    cbv
    ((try cbv) <;> (repeat ((with_reducible refine EW.of ?_); cbv)))
    (refine ⟨Ent.of (hP ▸ Try.func9) rfl, ?_⟩; refine TC.pureE h9 ?_; cbv; (repeat (first | exact trivial | refine And.intro (Emb.Pur _ _) ?_ | refine And.intro rfl ?_ | refine And.intro (Pur.mk rfl) ?_ | refine And.intro (Pur.mk (by assumption)) ?_)); ((try cbv) <;> (repeat ((with_reducible refine EW.of ?_); cbv))))
  have h2 : s.size ≤ 1000 := lt_nf (i := 1000) h2 rfl (A.ok_slen s)
  cbv
  (refine ⟨Ent.of (hP ▸ Try.func7) rfl, ?_⟩; refine TC.pureE h7 ?_; cbv; (repeat (first | exact trivial | refine And.intro (Emb.Pur _ _) ?_ | refine And.intro rfl ?_ | refine And.intro (Pur.mk rfl) ?_ | refine And.intro (Pur.mk (by assumption)) ?_)); ((try cbv) <;> (repeat ((with_reducible refine EW.of ?_); cbv))))
  cases g3 with
  | true =>
    cbv
    ((try cbv) <;> (repeat ((with_reducible refine EW.of ?_); cbv)))
    (refine ⟨Ent.of (hP ▸ Try.func9) rfl, ?_⟩; refine TC.pureE h9 ?_; cbv; (repeat (first | exact trivial | refine And.intro (Emb.Pur _ _) ?_ | refine And.intro rfl ?_ | refine And.intro (Pur.mk rfl) ?_ | refine And.intro (Pur.mk (by assumption)) ?_)); ((try cbv) <;> (repeat ((with_reducible refine EW.of ?_); cbv))))
  | false =>
  cbv
  (refine ⟨Ent.of (hP ▸ Try.func8) rfl, ?_⟩; refine TC.pureE h8 ?_; cbv; (repeat (first | exact trivial | refine And.intro (Emb.Pur _ _) ?_ | refine And.intro rfl ?_ | refine And.intro (Pur.mk rfl) ?_ | refine And.intro (Pur.mk (by assumption)) ?_)); ((try cbv) <;> (repeat ((with_reducible refine EW.of ?_); cbv))))
  cases gs with
  | true =>
    cbv
    ((try cbv) <;> (repeat ((with_reducible refine EW.of ?_); cbv)))
    (refine ⟨Ent.of (hP ▸ Try.func9) rfl, ?_⟩; refine TC.pureE h9 ?_; cbv; (repeat (first | exact trivial | refine And.intro (Emb.Pur _ _) ?_ | refine And.intro rfl ?_ | refine And.intro (Pur.mk rfl) ?_ | refine And.intro (Pur.mk (by assumption)) ?_)); ((try cbv) <;> (repeat ((with_reducible refine EW.of ?_); cbv))))
  | false =>
  cbv
  ((try cbv) <;> (repeat ((with_reducible refine EW.of ?_); cbv)))
  have hN := hN h1
  have hNr := hNr h1
  have hT := hT h1 h2
  have hTr := hTr h1 h2
  have hD := hD h1 rfl
  have hDr := hDr h1 rfl
  have hS := hS h1 rfl
  have hSr := hSr h1 rfl
  rw [E.node] at hD hDr
  obtain ⟨k0, hk0⟩ : ∃ k, k = bs.length := ⟨_, rfl⟩
  have hsc := B.scal bs
  refine msplit (fun he => ?_) (fun a al he => ?_)
  · cbv
    ((try cbv) <;> (repeat ((with_reducible refine EW.of ?_); cbv)))
    refine TW.vsE [(11, .sl 1 (B.l.l bs)), (10, .bool false), (8, .imm [.int .i64 i, .int .i64 k, .str st, .sl 4 (E.tree.l ks)]), (0, .sl 1 (B.l.l bs)), (1, .int .i64 n), (2, .str s), (4, .sl 9 (F.l.l l))] [] 88 rfl ?_
    cbv
    refine And.intro (by first | exact he.symm | exact B.l.cut hk0) (And.intro (B.l.Pur _) (And.intro (E.tree.Pur _) (And.intro (B.l.Pur _) (And.intro (F.l.Pur _) ?_))))
    (refine TW.draw (A := A) (T0_ok hP) (hP ▸ follows_mixed) (by kernel_rfl) rfl ?_; cbv)
    (refine ⟨Ent.of (hP ▸ Try.func10) rfl, ?_⟩; refine ⟨_, TC.pureX hN (by cbv; (repeat (first | exact trivial | refine And.intro (Emb.Pur _ _) ?_ | refine And.intro rfl ?_ | refine And.intro (Pur.mk rfl) ?_ | refine And.intro (Pur.mk (by assumption)) ?_))), ?_⟩; cbv)
    refine ⟨rN, B.bytes rN, ?_⟩
    cbv
    (refine ⟨Ent.of (hP ▸ Try.func11) rfl, ?_⟩; refine ⟨_, TC.pureX hNr (by cbv; (repeat (first | exact trivial | refine And.intro (Emb.Pur _ _) ?_ | refine And.intro rfl ?_ | refine And.intro (Pur.mk rfl) ?_ | refine And.intro (Pur.mk (by assumption)) ?_))), ?_⟩; cbv)
    refine ⟨rN, B.bytes rN, ?_⟩
    cbv
    refine byes (seq_self A _) ?_
    cbv
    (refine ⟨Ent.of (hP ▸ Try.func12) rfl, ?_⟩; refine ⟨_, TC.pureX hT (by cbv; (repeat (first | exact trivial | refine And.intro (Emb.Pur _ _) ?_ | refine And.intro rfl ?_ | refine And.intro (Pur.mk rfl) ?_ | refine And.intro (Pur.mk (by assumption)) ?_))), ?_⟩; cbv)
    refine ⟨rT, B.bytes rT, ?_⟩
    cbv
    (refine ⟨Ent.of (hP ▸ Try.func13) rfl, ?_⟩; refine ⟨_, TC.pureX hTr (by cbv; (repeat (first | exact trivial | refine And.intro (Emb.Pur _ _) ?_ | refine And.intro rfl ?_ | refine And.intro (Pur.mk rfl) ?_ | refine And.intro (Pur.mk (by assumption)) ?_))), ?_⟩; cbv)
    refine ⟨rT, B.bytes rT, ?_⟩
    cbv
    ((try cbv) <;> (repeat ((with_reducible refine EW.of ?_); cbv)))
    (refine TW.draw (A := A) (T0_ok hP) (hP ▸ follows_mixed) (by kernel_rfl) rfl ?_; cbv)
    (refine ⟨Ent.of (hP ▸ Try.func14) rfl, ?_⟩; refine ⟨_, TC.pureX hD (by cbv; (repeat (first | exact trivial | refine And.intro (Emb.Pur _ _) ?_ | refine And.intro rfl ?_ | refine And.intro (Pur.mk rfl) ?_ | refine And.intro (Pur.mk (by assumption)) ?_))), ?_⟩; cbv)
    refine ⟨rD, B.bytes rD, ?_⟩
    cbv
    (refine ⟨Ent.of (hP ▸ Try.func15) rfl, ?_⟩; refine ⟨_, TC.pureX hDr (by cbv; (repeat (first | exact trivial | refine And.intro (Emb.Pur _ _) ?_ | refine And.intro rfl ?_ | refine And.intro (Pur.mk rfl) ?_ | refine And.intro (Pur.mk (by assumption)) ?_))), ?_⟩; cbv)
    refine ⟨rD, B.bytes rD, ?_⟩
    cbv
    refine byes (seq_self A _) ?_
    cbv
    (refine ⟨Ent.of (hP ▸ Try.func16) rfl, ?_⟩; refine ⟨_, TC.pureX hS (by cbv; (repeat (first | exact trivial | refine And.intro (Emb.Pur _ _) ?_ | refine And.intro rfl ?_ | refine And.intro (Pur.mk rfl) ?_ | refine And.intro (Pur.mk (by assumption)) ?_))), ?_⟩; cbv)
    refine ⟨rS, B.bytes rS, ?_⟩
    cbv
    (refine ⟨Ent.of (hP ▸ Try.func17) rfl, ?_⟩; refine ⟨_, TC.pureX hSr (by cbv; (repeat (first | exact trivial | refine And.intro (Emb.Pur _ _) ?_ | refine And.intro rfl ?_ | refine And.intro (Pur.mk rfl) ?_ | refine And.intro (Pur.mk (by assumption)) ?_))), ?_⟩; cbv)
    refine ⟨rS, B.bytes rS, ?_⟩
    cbv
    ((try cbv) <;> (repeat ((with_reducible refine EW.of ?_); cbv)))
    refine byes (seq_self A _) ?_
    cbv
    refine byes (seq_self A _) ?_
    cbv
    refine ⟨bs, B.bytes bs, ?_⟩
    cbv
    refine ⟨bs, B.bytes bs, ?_⟩
    cbv
    refine byes (seq_self A _) ?_
    cbv
    (refine ⟨Ent.of (hP ▸ Try.func9) rfl, ?_⟩; refine TC.pureE h9 ?_; cbv; (repeat (first | exact trivial | refine And.intro (Emb.Pur _ _) ?_ | refine And.intro rfl ?_ | refine And.intro (Pur.mk rfl) ?_ | refine And.intro (Pur.mk (by assumption)) ?_)); ((try cbv) <;> (repeat ((with_reducible refine EW.of ?_); cbv))))
  · have he2 : a :: al = B.l.l bs := he.symm
    refine ⟨⟨by rw [he2]; exact hsc.h⟩, 0, rfl, k0, B.l.l bs, by rw [he2, hll, Nat.zero_add, hk0], by rw [he2]; rfl, Nat.zero_le _, by show k0 * 1 ≤ _; omega, by omega, ?_⟩
    cbv
    ((try cbv) <;> (repeat ((with_reducible refine EW.of ?_); cbv)))
    refine TW.vsE [(11, .sl 1 (B.l.l bs)), (10, .bool false), (8, .imm [.int .i64 i, .int .i64 k, .str st, .sl 4 (E.tree.l ks)]), (0, .sl 1 (B.l.l bs)), (1, .int .i64 n), (2, .str s), (4, .sl 9 (F.l.l l))] [] 88 rfl ?_
    cbv
    refine And.intro (by first | exact he.symm | exact B.l.cut hk0) (And.intro (B.l.Pur _) (And.intro (E.tree.Pur _) (And.intro (B.l.Pur _) (And.intro (F.l.Pur _) ?_))))
    (refine TW.draw (A := A) (T0_ok hP) (hP ▸ follows_mixed) (by kernel_rfl) rfl ?_; cbv)
    (refine ⟨Ent.of (hP ▸ Try.func10) rfl, ?_⟩; refine ⟨_, TC.pureX hN (by cbv; (repeat (first | exact trivial | refine And.intro (Emb.Pur _ _) ?_ | refine And.intro rfl ?_ | refine And.intro (Pur.mk rfl) ?_ | refine And.intro (Pur.mk (by assumption)) ?_))), ?_⟩; cbv)
    refine ⟨rN, B.bytes rN, ?_⟩
    cbv
    (refine ⟨Ent.of (hP ▸ Try.func11) rfl, ?_⟩; refine ⟨_, TC.pureX hNr (by cbv; (repeat (first | exact trivial | refine And.intro (Emb.Pur _ _) ?_ | refine And.intro rfl ?_ | refine And.intro (Pur.mk rfl) ?_ | refine And.intro (Pur.mk (by assumption)) ?_))), ?_⟩; cbv)
    refine ⟨rN, B.bytes rN, ?_⟩
    cbv
    refine byes (seq_self A _) ?_
    cbv
    (refine ⟨Ent.of (hP ▸ Try.func12) rfl, ?_⟩; refine ⟨_, TC.pureX hT (by cbv; (repeat (first | exact trivial | refine And.intro (Emb.Pur _ _) ?_ | refine And.intro rfl ?_ | refine And.intro (Pur.mk rfl) ?_ | refine And.intro (Pur.mk (by assumption)) ?_))), ?_⟩; cbv)
    refine ⟨rT, B.bytes rT, ?_⟩
    cbv
    (refine ⟨Ent.of (hP ▸ Try.func13) rfl, ?_⟩; refine ⟨_, TC.pureX hTr (by cbv; (repeat (first | exact trivial | refine And.intro (Emb.Pur _ _) ?_ | refine And.intro rfl ?_ | refine And.intro (Pur.mk rfl) ?_ | refine And.intro (Pur.mk (by assumption)) ?_))), ?_⟩; cbv)
    refine ⟨rT, B.bytes rT, ?_⟩
    cbv
    ((try cbv) <;> (repeat ((with_reducible refine EW.of ?_); cbv)))
    (refine TW.draw (A := A) (T0_ok hP) (hP ▸ follows_mixed) (by kernel_rfl) rfl ?_; cbv)
    (refine ⟨Ent.of (hP ▸ Try.func14) rfl, ?_⟩; refine ⟨_, TC.pureX hD (by cbv; (repeat (first | exact trivial | refine And.intro (Emb.Pur _ _) ?_ | refine And.intro rfl ?_ | refine And.intro (Pur.mk rfl) ?_ | refine And.intro (Pur.mk (by assumption)) ?_))), ?_⟩; cbv)
    refine ⟨rD, B.bytes rD, ?_⟩
    cbv
    (refine ⟨Ent.of (hP ▸ Try.func15) rfl, ?_⟩; refine ⟨_, TC.pureX hDr (by cbv; (repeat (first | exact trivial | refine And.intro (Emb.Pur _ _) ?_ | refine And.intro rfl ?_ | refine And.intro (Pur.mk rfl) ?_ | refine And.intro (Pur.mk (by assumption)) ?_))), ?_⟩; cbv)
    refine ⟨rD, B.bytes rD, ?_⟩
    cbv
    refine byes (seq_self A _) ?_
    cbv
    (refine ⟨Ent.of (hP ▸ Try.func16) rfl, ?_⟩; refine ⟨_, TC.pureX hS (by cbv; (repeat (first | exact trivial | refine And.intro (Emb.Pur _ _) ?_ | refine And.intro rfl ?_ | refine And.intro (Pur.mk rfl) ?_ | refine And.intro (Pur.mk (by assumption)) ?_))), ?_⟩; cbv)
    refine ⟨rS, B.bytes rS, ?_⟩
    cbv
    (refine ⟨Ent.of (hP ▸ Try.func17) rfl, ?_⟩; refine ⟨_, TC.pureX hSr (by cbv; (repeat (first | exact trivial | refine And.intro (Emb.Pur _ _) ?_ | refine And.intro rfl ?_ | refine And.intro (Pur.mk rfl) ?_ | refine And.intro (Pur.mk (by assumption)) ?_))), ?_⟩; cbv)
    refine ⟨rS, B.bytes rS, ?_⟩
    cbv
    ((try cbv) <;> (repeat ((with_reducible refine EW.of ?_); cbv)))
    refine byes (seq_self A _) ?_
    cbv
    refine byes (seq_self A _) ?_
    cbv
    refine ⟨bs, B.bytes bs, ?_⟩
    cbv
    refine ⟨bs, B.bytes bs, ?_⟩
    cbv
    refine byes (seq_self A _) ?_
    cbv
    (refine ⟨Ent.of (hP ▸ Try.func9) rfl, ?_⟩; refine TC.pureE h9 ?_; cbv; (repeat (first | exact trivial | refine And.intro (Emb.Pur _ _) ?_ | refine And.intro rfl ?_ | refine And.intro (Pur.mk rfl) ?_ | refine And.intro (Pur.mk (by assumption)) ?_)); ((try cbv) <;> (repeat ((with_reducible refine EW.of ?_); cbv))))
end Go.Proofs.Ytmbbdabcbnemiaa
