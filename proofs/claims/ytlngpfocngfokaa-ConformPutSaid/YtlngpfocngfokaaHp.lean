import Derived.Test.YtlngpfocngfokaaHo
/-! ConformParts. -/
namespace Go.Proofs.Ytlngpfocngfokaa
open Go.Proofs.Ytlngpfocngfokaa.Tw
set_option maxHeartbeats 4000000 in
theorem law8 (A : Ar) (E : Em) (G : EmG) (H : EmN) (R : EmR) (M : EmI) {P : Program} (hP : P = Try.prog) (g : Gra) (hg : g.ok) (t : Tree) (hok : t.ok) : TPure P 8 [G.gv g, E.tree.v t] (.bool true) := by
  have h25 := wakes25 A E G H R M hP
  have h10 := Great10 A E G hP g hg
  have h24 := Great24 A E hP t hok
  have h23 : TPure P 34 [t.av, .int .i64 251] (.sl 5 (spots (walkT 251 t [] 1))) := Walk23 A hP 251 (by decide) (by decide) t hok
  have c28 := fun u h => Sub28 A E G H R M hP g hg 250 (by decide) u h
  have c30 := fun u h => Node30 A E G H R hP g hg u h
  simp only [subR_subP] at c28
  have hlow := fun h => great3_low (t := t) h
  have hx1 : ∀ (j : Nat) (x : Tree × Nat), (subP g t).2 = 0 → low 250 t → (walkT 251 t [] 1)[j]? = some x → low 250 x.1 ∧ kidsL x.1 ≤ 1000000 ∧ (subP g x.1).2 = 0 ∧ nodeB g x.1 = true := fun j x h0 hl hx => by
    have hm := List.mem_of_getElem? hx
    rw [walkT_ord 251 t [] 1 (by simp)] at hm
    have hm := List.mem_of_mem_take (by simpa using hm)
    have := ord_low 250 t 1 hl x hm
    exact ⟨this.1, low_kids this.1, parts h0 x hm⟩
  have hx2 : (subP g t).2 = 0 → (walkT 251 t [] 1).length ≤ 200 := fun h0 => by
    have := (subP_ok.1 h0).2.1
    rw [walkT_ord 251 t [] 1 (by simp)]
    simp
    omega
  obtain ⟨bg, hbg⟩ : ∃ b, b = greatG g := ⟨_, rfl⟩
  rw [← hbg] at h10
  obtain ⟨bt, hbt⟩ : ∃ b, b = great3 t := ⟨_, rfl⟩
  rw [← hbt] at h24 hlow
  have k28 := c28 t
  obtain ⟨s1, s2, hs⟩ : ∃ s1 s2, (s1, s2) = subP g t := ⟨_, _, rfl⟩
  rw [← hs] at k28 hx1 hx2
  dsimp only at k28 hx1 hx2
  obtain ⟨sp, hsp⟩ : ∃ sp, sp = walkT 251 t [] 1 := ⟨_, rfl⟩
  rw [← hsp] at h23 hx1 hx2
  obtain ⟨lw, hlw⟩ : ∃ p : Prop, p = low 250 t := ⟨_, rfl⟩
  rw [← hlw] at hlow k28 hx1
  have hll := E.spot.len sp
  have hlk : A.len (E.spot.l sp) = (sp.length : Int) := by rw [A.ok_len, hll]
  rw [E.av, E.spots] at h23
  obtain ⟨gg, hgg⟩ : ∃ gg, gg = g := ⟨_, rfl⟩
  rw [← hgg] at hx1
  obtain ⟨i, k, s, ks⟩ := t
  obtain ⟨gk, root⟩ := g
  rw [E.node] at k28 h23 h24 ⊢
  unfold EmG.gv at c28 c30 k28 h10 ⊢
  dsimp only at c28 c30 k28 h10 ⊢
  have p2 : Tw.Pur [.sl 3 (G.kind.l gk), .int .i64 root] := Pur.mk (by (repeat (first | exact rfl | exact Emb.purL _ _ | assumption | apply pur_cons | apply pur_sl | apply pur_slt | apply pur_agg | apply pur_tup)))
  have p3 : Tw.Pur [.int .i64 i, .int .i64 k, .str s, .sl 4 (E.tree.l ks)] := Pur.mk (by (repeat (first | exact rfl | exact Emb.purL _ _ | assumption | apply pur_cons | apply pur_sl | apply pur_slt | apply pur_agg | apply pur_tup)))
  refine TPure.ofE A T0 (T0_ok hP) (hP ▸ Try.func8) rfl _ rfl (by simp) ?_
  cbv
  ((try cbv) <;> (repeat ((with_reducible refine EW.of ?_); cbv)))
  (refine ⟨Ent.of (hP ▸ Try.func10) rfl, ?_⟩; refine TC.pureE h10 ?_; cbv; (repeat (first | exact trivial | refine And.intro (Emb.Pur _ _) ?_ | refine And.intro rfl ?_ | refine And.intro (Pur.mk rfl) ?_ | refine And.intro (Pur.mk (by assumption)) ?_)); ((try cbv) <;> (repeat ((with_reducible refine EW.of ?_); cbv))))
  refine bsplit (fun h1 => ?_) (fun h1 => ?_)
  · ((try cbv) <;> (repeat ((with_reducible refine EW.of ?_); cbv)))
    (refine ⟨Ent.of (hP ▸ Try.func25) rfl, ?_⟩; refine TC.pureE h25 ?_; cbv; (repeat (first | exact trivial | refine And.intro (Emb.Pur _ _) ?_ | refine And.intro rfl ?_ | refine And.intro (Pur.mk rfl) ?_ | refine And.intro (Pur.mk (by assumption)) ?_)); ((try cbv) <;> (repeat ((with_reducible refine EW.of ?_); cbv))))
  ((try cbv) <;> (repeat ((with_reducible refine EW.of ?_); cbv)))
  (refine ⟨Ent.of (hP ▸ Try.func24) rfl, ?_⟩; refine TC.pureE h24 ?_; cbv; (repeat (first | exact trivial | refine And.intro (Emb.Pur _ _) ?_ | refine And.intro rfl ?_ | refine And.intro (Pur.mk rfl) ?_ | refine And.intro (Pur.mk (by assumption)) ?_)); ((try cbv) <;> (repeat ((with_reducible refine EW.of ?_); cbv))))
  refine bsplit (fun h2 => ?_) (fun h2 => ?_)
  · ((try cbv) <;> (repeat ((with_reducible refine EW.of ?_); cbv)))
    (refine ⟨Ent.of (hP ▸ Try.func25) rfl, ?_⟩; refine TC.pureE h25 ?_; cbv; (repeat (first | exact trivial | refine And.intro (Emb.Pur _ _) ?_ | refine And.intro rfl ?_ | refine And.intro (Pur.mk rfl) ?_ | refine And.intro (Pur.mk (by assumption)) ?_)); ((try cbv) <;> (repeat ((with_reducible refine EW.of ?_); cbv))))
  have hl : lw := hlow h2
  have k28 := k28 hl
  ((try cbv) <;> (repeat ((with_reducible refine EW.of ?_); cbv)))
  (refine ⟨Ent.of (hP ▸ Try.func28) rfl, ?_⟩; refine TC.pureE k28 ?_; cbv; (repeat (first | exact trivial | refine And.intro (Emb.Pur _ _) ?_ | refine And.intro rfl ?_ | refine And.intro (Pur.mk rfl) ?_ | refine And.intro (Pur.mk (by assumption)) ?_)); ((try cbv) <;> (repeat ((with_reducible refine EW.of ?_); cbv))))
  ((try cbv) <;> (repeat ((with_reducible refine EW.of ?_); cbv)))
  refine bsplit (fun h3 => ?_) (fun h3 => ?_)
  · ((try cbv) <;> (repeat ((with_reducible refine EW.of ?_); cbv)))
    (refine ⟨Ent.of (hP ▸ Try.func25) rfl, ?_⟩; refine TC.pureE h25 ?_; cbv; (repeat (first | exact trivial | refine And.intro (Emb.Pur _ _) ?_ | refine And.intro rfl ?_ | refine And.intro (Pur.mk rfl) ?_ | refine And.intro (Pur.mk (by assumption)) ?_)); ((try cbv) <;> (repeat ((with_reducible refine EW.of ?_); cbv))))
  have h3 : s2 = 0 := ne_f h3 rfl rfl
  have hx1 := fun j x => hx1 j x h3 hl
  have hx2 := hx2 h3
  ((try cbv) <;> (repeat ((with_reducible refine EW.of ?_); cbv)))
  (refine ⟨Ent.of (hP ▸ Try.func34) rfl, ?_⟩; refine TC.pureE h23 ?_; cbv; (repeat (first | exact trivial | refine And.intro (Emb.Pur _ _) ?_ | refine And.intro rfl ?_ | refine And.intro (Pur.mk rfl) ?_ | refine And.intro (Pur.mk (by assumption)) ?_)); ((try cbv) <;> (repeat ((with_reducible refine EW.of ?_); cbv))))
  ((try cbv) <;> (repeat ((with_reducible refine EW.of ?_); cbv)))
  obtain ⟨S, hS⟩ : ∃ S : LI Nat, S = ⟨fun x => [(31, .int .i64 x), (30, .int .i64 (A.len (E.spot.l sp))), (7, .sl 5 (E.spot.l sp)), (3, .imm [.int .i64 i, .int .i64 k, .str s, .sl 4 (E.tree.l ks)]), (2, .imm [.sl 3 (G.kind.l gk), .int .i64 root])], fun _ => [], fun x => x ≤ sp.length, fun x => sp.length - x⟩ := ⟨_, rfl⟩
  refine TW.loopM A (T0_ok hP) S _ rfl 0 ?_ ?_ ?_
  · rw [hS]; exact Nat.zero_le _
  · rw [hS]
    cbv
    (repeat (first | exact trivial | refine And.intro (Emb.Pur _ _) ?_ | refine And.intro (inc_eq A (by omega)) ?_ | refine And.intro rfl ?_ | refine And.intro p2 ?_ | refine And.intro p3 ?_))
  rintro j hj l1 L1 e1 e2
  rw [hS] at hj e1 e2
  dsimp only at hj e1 e2
  subst e1 e2
  cbv
  ((try cbv) <;> (repeat ((with_reducible refine EW.of ?_); cbv)))
  refine bsplit (fun h4 => ?_) (fun h4 => ?_)
  · have h4 : j < sp.length := lt_nt h4 rfl hlk
    obtain ⟨⟨t', d'⟩, hx⟩ : ∃ x, sp[j]? = some x := ⟨_, List.getElem?_eq_getElem h4⟩
    obtain ⟨y1, y2, y3, y4⟩ := hx1 j _ hx
    have m28 := c28 t' y1
    have m30 := c30 t' y2
    rw [← hgg, y4] at m30
    obtain ⟨r1, r2, hr⟩ : ∃ s1 s2, (s1, s2) = subP gg t' := ⟨_, _, rfl⟩
    rw [← hgg, ← hr] at m28
    have y3 : r2 = 0 := by rw [← hr] at y3; exact y3
    subst y3
    obtain ⟨i', k', s', ks'⟩ := t'
    have hgx := E.gets hx
    rw [E.node] at m28 m30
    ((try cbv) <;> (repeat ((with_reducible refine EW.of ?_); cbv)))
    have p4 : Tw.Pur [.int .i64 i', .int .i64 k', .str s', .sl 4 (E.tree.l ks')] := Pur.mk (by (repeat (first | exact rfl | exact Emb.purL _ _ | assumption | apply pur_cons | apply pur_sl | apply pur_slt | apply pur_agg | apply pur_tup)))
    (refine TW.draw (A := A) (T0_ok hP) (hP ▸ follows_mixed) (by kernel_rfl) rfl ?_; cbv)
    refine ⟨j, _, rfl, hgx, ?_⟩
    cbv
    (refine ⟨Ent.of (hP ▸ Try.func28) rfl, ?_⟩; refine ⟨_, TC.pureX m28 (by cbv; (repeat (first | exact trivial | refine And.intro (Emb.Pur _ _) ?_ | refine And.intro rfl ?_ | refine And.intro (Pur.mk rfl) ?_ | refine And.intro (Pur.mk (by assumption)) ?_))), ?_⟩; cbv)
    ((try cbv) <;> (repeat ((with_reducible refine EW.of ?_); cbv)))
    (refine TW.draw (A := A) (T0_ok hP) (hP ▸ follows_mixed) (by kernel_rfl) rfl ?_; cbv)
    refine bno (neF rfl) ?_
    cbv
    refine ⟨j, _, rfl, hgx, ?_⟩
    cbv
    (refine ⟨Ent.of (hP ▸ Try.func30) rfl, ?_⟩; refine ⟨_, TC.pureX m30 (by cbv; (repeat (first | exact trivial | refine And.intro (Emb.Pur _ _) ?_ | refine And.intro rfl ?_ | refine And.intro (Pur.mk rfl) ?_ | refine And.intro (Pur.mk (by assumption)) ?_))), ?_⟩; cbv)
    ((try cbv) <;> (repeat ((with_reducible refine EW.of ?_); cbv)))
    refine LM.of (j + 1) rfl ?_ ?_ ?_
    · rw [hS]; show j + 1 ≤ sp.length; omega
    · rw [hS]; show sp.length - (j + 1) < sp.length - j; omega
    · rw [hS]
      cbv
      (repeat (first | exact trivial | refine And.intro (Emb.Pur _ _) ?_ | refine And.intro (inc_eq A (by omega)) ?_ | refine And.intro rfl ?_ | refine And.intro p2 ?_ | refine And.intro p3 ?_))
  · ((try cbv) <;> (repeat ((with_reducible refine EW.of ?_); cbv)))
    refine byes (show A.le (A.len (E.spot.l sp)) 200 = true by rw [hlk]; exact leT (Int.ofNat_le.2 hx2)) ?_
    ((try cbv) <;> (repeat ((with_reducible refine EW.of ?_); cbv)))
    (refine ⟨Ent.of (hP ▸ Try.func25) rfl, ?_⟩; refine TC.pureE h25 ?_; cbv; (repeat (first | exact trivial | refine And.intro (Emb.Pur _ _) ?_ | refine And.intro rfl ?_ | refine And.intro (Pur.mk rfl) ?_ | refine And.intro (Pur.mk (by assumption)) ?_)); ((try cbv) <;> (repeat ((with_reducible refine EW.of ?_); cbv))))
end Go.Proofs.Ytlngpfocngfokaa
