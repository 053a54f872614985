import Derived.Test.YtaieiigfheabfaaYi
/-! The rules of normal.Pair. -/
namespace Go.Proofs.Ytaieiigfheabfaa
open Go.Proofs.Ytaieiigfheabfaa.Tw
theorem ruleA (A : Ar) (E : Em) (F : EmS) {P : Program} (hP : P = Try.prog) (n : Nat) (op : Int) (a b : Stp) (hwb : within n b.sub) (r : Bool) (hr : r = (decide (a.op = op) && (decide (b.op = op) && decide (a.id = b.id)))) : TPure P 39 [F.l.v a, F.l.v b, .imm [.int .i8 op]] (.tup [.sl 9 (F.l.l [b]), .bool r]) := by
  have hc := copiedP A E F hP n b hwb
  obtain ⟨op1, id1, par1, pl1, tx1, i1, k1, s1, ks1⟩ := a
  obtain ⟨op2, id2, par2, pl2, tx2, i2, k2, s2, ks2⟩ := b
  dsimp only at hr
  rw [F.l.cons, F.l.nil]
  rw [F.v E, F.v E]
  rw [F.v E] at hc
  have p1 : Tw.Pur [.agg [.int .i8 op2, .int .i64 id2, .int .i64 par2, .int .i64 pl2, .str tx2, .int .i64 i2, .int .i64 k2, .str s2, .sl 4 (E.tree.l ks2)]] := Pur.mk (by (repeat (first | exact rfl | exact Emb.purL _ _ | assumption | apply pur_cons | apply pur_sl | apply pur_slt | apply pur_agg | apply pur_tup)))
  refine TPure.ofE A T0 (T0_ok hP) (hP ▸ Try.func39) rfl _ rfl (by simp) ?_
  cbv
  ((try cbv) <;> (repeat ((with_reducible refine EW.of ?_); cbv)))
  (refine TW.draw (A := A) (T0_ok hP) (hP ▸ follows_mixed) (by kernel_rfl) rfl ?_; cbv)
  (refine ⟨Ent.of (hP ▸ Try.func40) rfl, ?_⟩; refine ⟨_, TC.pureX hc (by cbv; (repeat (first | exact trivial | refine And.intro (Emb.Pur _ _) ?_ | refine And.intro rfl ?_ | refine And.intro (Pur.mk rfl) ?_ | refine And.intro (Pur.mk (by assumption)) ?_))), ?_⟩; cbv)
  refine bsplit (fun h => ?_) (fun h => ?_)
  rotate_left
  · have h : ¬ (op1 = op) := (by first | exact not_lt_f h (by first | rfl | assumption) (by first | rfl | assumption) | exact not_le_f h (by first | rfl | assumption) (by first | rfl | assumption) | exact eq_f h (by first | rfl | assumption) (by first | rfl | assumption) | exact not_ne_f h (by first | rfl | assumption) (by first | rfl | assumption) | exact not_lt_nf h (by first | rfl | assumption) (by first | rfl | assumption) | exact not_le_nf h (by first | rfl | assumption) (by first | rfl | assumption) | exact not_ne_nf h (by first | rfl | assumption) (by first | rfl | assumption))
    replace hr : r = false := by rw [hr]; simp [h]
    subst hr
    ((try cbv) <;> (repeat ((with_reducible refine EW.of ?_); cbv)))
    refine And.intro p1 ?_
    (repeat (first | exact trivial | refine And.intro (Emb.Pur _ _) ?_ | refine And.intro rfl ?_ | refine And.intro (Pur.mk rfl) ?_ | refine And.intro (Pur.mk (by assumption)) ?_))
  have h : op1 = op := (by first | exact lt_t h (by first | rfl | assumption) (by first | rfl | assumption) | exact le_t h (by first | rfl | assumption) (by first | rfl | assumption) | exact eq_t h (by first | rfl | assumption) (by first | rfl | assumption) | exact ne_t h (by first | rfl | assumption) (by first | rfl | assumption) | exact lt_nt h (by first | rfl | assumption) (by first | rfl | assumption) | exact le_nt h (by first | rfl | assumption) (by first | rfl | assumption) | exact ne_nt h (by first | rfl | assumption) (by first | rfl | assumption) | exact seq_t h | exact (sne_t h))
  ((try cbv) <;> (repeat ((with_reducible refine EW.of ?_); cbv)))
  rw [decide_eq_true h] at hr
  refine bsplit (fun h => ?_) (fun h => ?_)
  rotate_left
  · have h : ¬ (op2 = op) := (by first | exact not_lt_f h (by first | rfl | assumption) (by first | rfl | assumption) | exact not_le_f h (by first | rfl | assumption) (by first | rfl | assumption) | exact eq_f h (by first | rfl | assumption) (by first | rfl | assumption) | exact not_ne_f h (by first | rfl | assumption) (by first | rfl | assumption) | exact not_lt_nf h (by first | rfl | assumption) (by first | rfl | assumption) | exact not_le_nf h (by first | rfl | assumption) (by first | rfl | assumption) | exact not_ne_nf h (by first | rfl | assumption) (by first | rfl | assumption))
    replace hr : r = false := by rw [hr]; simp [h]
    subst hr
    ((try cbv) <;> (repeat ((with_reducible refine EW.of ?_); cbv)))
    refine And.intro p1 ?_
    (repeat (first | exact trivial | refine And.intro (Emb.Pur _ _) ?_ | refine And.intro rfl ?_ | refine And.intro (Pur.mk rfl) ?_ | refine And.intro (Pur.mk (by assumption)) ?_))
  have h : op2 = op := (by first | exact lt_t h (by first | rfl | assumption) (by first | rfl | assumption) | exact le_t h (by first | rfl | assumption) (by first | rfl | assumption) | exact eq_t h (by first | rfl | assumption) (by first | rfl | assumption) | exact ne_t h (by first | rfl | assumption) (by first | rfl | assumption) | exact lt_nt h (by first | rfl | assumption) (by first | rfl | assumption) | exact le_nt h (by first | rfl | assumption) (by first | rfl | assumption) | exact ne_nt h (by first | rfl | assumption) (by first | rfl | assumption) | exact seq_t h | exact (sne_t h))
  ((try cbv) <;> (repeat ((with_reducible refine EW.of ?_); cbv)))
  rw [decide_eq_true h] at hr
  replace hr : A.eq id1 id2 = r := by rw [hr, A.ok_eq]; simp
  refine And.intro p1 ?_
  exact And.intro hr trivial
theorem ruleB (A : Ar) (E : Em) (F : EmS) {P : Program} (hP : P = Try.prog) (a b : Stp) (r : Bool) (hr : r = (decide (a.op = 1) && (decide (b.op = 2) && decide (a.sub.id = b.id)))) : TPure P 41 [F.l.v a, F.l.v b] (.tup [.sl 9 [], .bool r]) := by
  obtain ⟨op1, id1, par1, pl1, tx1, i1, k1, s1, ks1⟩ := a
  obtain ⟨op2, id2, par2, pl2, tx2, i2, k2, s2, ks2⟩ := b
  replace hr : r = (decide (op1 = 1) && (decide (op2 = 2) && decide (i1 = id2))) := hr
  rw [F.v E, F.v E]
  refine TPure.ofE A T0 (T0_ok hP) (hP ▸ Try.func41) rfl _ rfl (by simp) ?_
  cbv
  ((try cbv) <;> (repeat ((with_reducible refine EW.of ?_); cbv)))
  (refine TW.draw (A := A) (T0_ok hP) (hP ▸ follows_mixed) (by kernel_rfl) rfl ?_; cbv)
  refine bsplit (fun h => ?_) (fun h => ?_)
  rotate_left
  · have h : ¬ (op1 = 1) := (by first | exact not_lt_f h (by first | rfl | assumption) (by first | rfl | assumption) | exact not_le_f h (by first | rfl | assumption) (by first | rfl | assumption) | exact eq_f h (by first | rfl | assumption) (by first | rfl | assumption) | exact not_ne_f h (by first | rfl | assumption) (by first | rfl | assumption) | exact not_lt_nf h (by first | rfl | assumption) (by first | rfl | assumption) | exact not_le_nf h (by first | rfl | assumption) (by first | rfl | assumption) | exact not_ne_nf h (by first | rfl | assumption) (by first | rfl | assumption))
    replace hr : r = false := by rw [hr]; simp [h]
    subst hr
    ((try cbv) <;> (repeat ((with_reducible refine EW.of ?_); cbv)))
  have h : op1 = 1 := (by first | exact lt_t h (by first | rfl | assumption) (by first | rfl | assumption) | exact le_t h (by first | rfl | assumption) (by first | rfl | assumption) | exact eq_t h (by first | rfl | assumption) (by first | rfl | assumption) | exact ne_t h (by first | rfl | assumption) (by first | rfl | assumption) | exact lt_nt h (by first | rfl | assumption) (by first | rfl | assumption) | exact le_nt h (by first | rfl | assumption) (by first | rfl | assumption) | exact ne_nt h (by first | rfl | assumption) (by first | rfl | assumption) | exact seq_t h | exact (sne_t h))
  ((try cbv) <;> (repeat ((with_reducible refine EW.of ?_); cbv)))
  rw [decide_eq_true h] at hr
  refine bsplit (fun h => ?_) (fun h => ?_)
  rotate_left
  · have h : ¬ (op2 = 2) := (by first | exact not_lt_f h (by first | rfl | assumption) (by first | rfl | assumption) | exact not_le_f h (by first | rfl | assumption) (by first | rfl | assumption) | exact eq_f h (by first | rfl | assumption) (by first | rfl | assumption) | exact not_ne_f h (by first | rfl | assumption) (by first | rfl | assumption) | exact not_lt_nf h (by first | rfl | assumption) (by first | rfl | assumption) | exact not_le_nf h (by first | rfl | assumption) (by first | rfl | assumption) | exact not_ne_nf h (by first | rfl | assumption) (by first | rfl | assumption))
    replace hr : r = false := by rw [hr]; simp [h]
    subst hr
    ((try cbv) <;> (repeat ((with_reducible refine EW.of ?_); cbv)))
  have h : op2 = 2 := (by first | exact lt_t h (by first | rfl | assumption) (by first | rfl | assumption) | exact le_t h (by first | rfl | assumption) (by first | rfl | assumption) | exact eq_t h (by first | rfl | assumption) (by first | rfl | assumption) | exact ne_t h (by first | rfl | assumption) (by first | rfl | assumption) | exact lt_nt h (by first | rfl | assumption) (by first | rfl | assumption) | exact le_nt h (by first | rfl | assumption) (by first | rfl | assumption) | exact ne_nt h (by first | rfl | assumption) (by first | rfl | assumption) | exact seq_t h | exact (sne_t h))
  ((try cbv) <;> (repeat ((with_reducible refine EW.of ?_); cbv)))
  rw [decide_eq_true h] at hr
  replace hr : A.eq i1 id2 = r := by rw [hr, A.ok_eq]; simp
  exact And.intro hr trivial
theorem EW.vsB {A : Ar} {T : TyOps} {P : Program} {r : Option Nat} {K : Nat} {c : Code} {Q : AEx → AFr → Store → Prop} {fr fr' : AFr} {L L' : Store} (h : VS K fr L fr' L') (k : EW A T P r K c Q fr' L') : EW A T P r K c Q fr L := ⟨fun hT => Tw.vs h (k.h hT)⟩
set_option maxHeartbeats 1000000 in
theorem ruleC (A : Ar) (E : Em) (F : EmS) {P : Program} (hP : P = Try.prog) (n : Nat) (a b : Stp) (hwa : within (n + 1) a.sub) (y : Stp) (r : Bool) (h1 : a.op = 1 → b.op = 4 → (y = { a with sub := (textT b.id b.text a.sub).1 } ∧ r = (textT b.id b.text a.sub).2)) (h2 : a.op ≠ 1 ∨ b.op ≠ 4 → y = a ∧ r = false) : TPure P 42 [F.l.v a, F.l.v b] (.tup [.sl 9 (F.l.l [y]), .bool r]) := by
  obtain ⟨op1, id1, par1, pl1, tx1, t1⟩ := a
  obtain ⟨op2, id2, par2, pl2, tx2, i2, k2, s2, ks2⟩ := b
  dsimp only at hwa h1 h2
  have hc := copiedD A E F hP (n + 1) op1 id1 par1 pl1 tx1 t1 hwa
  obtain ⟨yop, yid, ypar, ypl, ytx, yi, yk, ys, yks⟩ := y
  rw [F.l.cons, F.l.nil]
  rw [F.v E, F.v E]
  obtain ⟨i1, k1, s1, ks1, ht1⟩ : ∃ i k s ks, t1 = Tree.node i k s ks := by cases t1; exact ⟨_, _, _, _, rfl⟩
  have eA : F.l.v ⟨op1, id1, par1, pl1, tx1, t1⟩ = .agg [.int .i8 op1, .int .i64 id1, .int .i64 par1, .int .i64 pl1, .str tx1, .int .i64 i1, .int .i64 k1, .str s1, .sl 4 (E.tree.l ks1)] := by rw [ht1]; exact F.v E ..
  rw [eA] at hc ⊢
  have p1 : Tw.Pur [.agg [.int .i8 yop, .int .i64 yid, .int .i64 ypar, .int .i64 ypl, .str ytx, .int .i64 yi, .int .i64 yk, .str ys, .sl 4 (E.tree.l yks)]] := Pur.mk (by (repeat (first | exact rfl | exact Emb.purL _ _ | assumption | apply pur_cons | apply pur_sl | apply pur_slt | apply pur_agg | apply pur_tup)))
  have ppk : purL [.agg [.int .i8 op1, .int .i64 id1, .int .i64 par1, .int .i64 pl1, .str tx1, .int .i64 i1, .int .i64 k1, .str s1, .sl 4 (E.tree.l ks1)]] = true := by (repeat (first | exact rfl | exact Emb.purL _ _ | assumption | apply pur_cons | apply pur_sl | apply pur_slt | apply pur_agg | apply pur_tup))
  refine TPure.ofE A T0 (T0_ok hP) (hP ▸ Try.func42) rfl _ rfl (by simp) ?_
  cbv
  ((try cbv) <;> (repeat ((with_reducible refine EW.of ?_); cbv)))
  refine ⟨Ent.of (hP ▸ Try.func40) rfl, TC.mono (sR.call hc ppk _) ?_⟩
  rintro x L ⟨M, d, rfl, hL, hdt, hd, hdn, hge⟩
  have g0 : L[0]? = some (some (.box 9 (.agg [.int .i8 op1, .int .i64 id1, .int .i64 par1, .int .i64 pl1, .str tx1, .int .i64 i1, .int .i64 k1, .str s1, .sl 4 (E.tree.l ks1)]))) := by rw [hL]; rfl
  have g1 : L[1]? = some (some (.box 9 (.agg [.int .i8 op2, .int .i64 id2, .int .i64 par2, .int .i64 pl2, .str tx2, .int .i64 i2, .int .i64 k2, .str s2, .sl 4 (E.tree.l ks2)]))) := by rw [hL]; rfl
  obtain ⟨o, dks, hdd, hdk⟩ := DT.cell_node (hdt.trans ht1)
  have hsc : stepCell op1 id1 par1 pl1 tx1 d = .agg [.int .i8 op1, .int .i64 id1, .int .i64 par1, .int .i64 pl1, .str tx1, .int .i64 i1, .int .i64 k1, .str s1, kidAV dks.length o] := by rw [hdd]; rfl
  obtain ⟨kid, hkid⟩ : ∃ kid, kid = kidAV dks.length o := ⟨_, rfl⟩
  rw [hsc, ← hkid]
  obtain ⟨q, hq⟩ : ∃ q, q = L.length := ⟨_, rfl⟩
  obtain ⟨L2, hL2⟩ : ∃ M : Store, M = L ++ [some (.box 9 (.agg [.int .i8 0, .int .i64 0, .int .i64 0, .int .i64 0, .str ⟨⟨[]⟩⟩, .int .i64 0, .int .i64 0, .str ⟨⟨[]⟩⟩, .nils]))] := ⟨_, rfl⟩
  have hg2 : L2[q]? = some (some (.box 9 (.agg [.int .i8 0, .int .i64 0, .int .i64 0, .int .i64 0, .str ⟨⟨[]⟩⟩, .int .i64 0, .int .i64 0, .str ⟨⟨[]⟩⟩, .nils]))) := by rw [hL2, hq]; simp
  cbv
  simp only [← List.length.eq_def, ← List.append.eq_def, ← List.get?Internal.eq_def]
  rw [← hq]
  rw [show L.append [some (.box 9 (.agg [.int .i8 0, .int .i64 0, .int .i64 0, .int .i64 0, .str ⟨⟨[]⟩⟩, .int .i64 0, .int .i64 0, .str ⟨⟨[]⟩⟩, .nils]))] = L2 from hL2.symm]
  rw [show L2.get?Internal q = _ from hg2]
  refine chk_iff.2 ⟨by rw [hkid]; cases o <;> rfl, ?_⟩
  generalize hL3 : List.set L2 q _ = L3
  replace hL3 : L3 = L2.set q (some (.box 9 (.agg [.int .i8 op1, .int .i64 id1, .int .i64 par1, .int .i64 pl1, .str tx1, .int .i64 i1, .int .i64 k1, .str s1, kid]))) := hL3.symm
  have hq2 : q < L2.length := (List.getElem?_eq_some_iff.1 hg2).1
  have hg3 : L3[q]? = some (some (.box 9 (.agg [.int .i8 op1, .int .i64 id1, .int .i64 par1, .int .i64 pl1, .str tx1, .int .i64 i1, .int .i64 k1, .str s1, kid]))) := by rw [hL3, List.getElem?_set_self hq2]
  have hx3 : ∀ x, x < L.length → L3[x]? = L[x]? := fun x hx => by rw [hL3, List.getElem?_set_ne (by omega), hL2, List.getElem?_append_left hx]
  have k0 := (hx3 0 (List.getElem?_eq_some_iff.1 g0).1).trans g0
  have k1' := (hx3 1 (List.getElem?_eq_some_iff.1 g1).1).trans g1
  cbv
  with_reducible refine EW.of ?_
  cbv
  have hqf : q ∉ d.foot := fun e => by have := DT.ok.lt hd q e; omega
  have hd3 : d.ok L3 := DT.ok.same (fun x hx => hx3 x (DT.ok.lt hd x hx)) hd
  have hg3' : L3[q]? = some (some (.box 9 (stepCell op1 id1 par1 pl1 tx1 d))) := by rw [hg3, hsc, hkid]
  (simp only [← List.get?Internal.eq_def]; rw [show L3.get?Internal 0 = _ from k0]; cbv)
  refine bsplit (fun h => ?_) (fun h => ?_)
  rotate_left
  · have h : ¬ op1 = 1 := eq_f h rfl rfl
    have hcase : op1 ≠ 1 ∨ op2 ≠ 4 := .inl h
    obtain ⟨hy, rfl⟩ := h2 hcase
    obtain ⟨rfl, rfl, rfl, rfl, rfl, hys⟩ := Stp.mk.inj hy
    have hdz := hd3
    have hqz := hqf
    have hnz := hdn
    have hgz := hg3'
    have htz := hdt.trans hys.symm
    cbv
    obtain ⟨L5, hv5, hl5, hg5, hx5⟩ := DT.shutS E _ _ _ _ _ d L3 q hdz (List.nodup_cons.2 ⟨hqz, hnz⟩) hgz yi yk ys yks htz
    refine EW.vsB (hv5 _ _) ?_
    with_reducible refine EW.of ?_
    cbv
    (simp only [← List.get?Internal.eq_def]; rw [show L5.get?Internal q = _ from hg5]; cbv)
    ((try cbv) <;> (repeat ((with_reducible refine EW.of ?_); cbv)))
    exact And.intro p1 trivial
  have h : op1 = 1 := eq_t h rfl rfl
  cbv
  (simp only [← List.get?Internal.eq_def]; rw [show L3.get?Internal 1 = _ from k1']; cbv)
  refine bsplit (fun h' => ?_) (fun h' => ?_)
  rotate_left
  · have h' : ¬ op2 = 4 := eq_f h' rfl rfl
    have hcase : op1 ≠ 1 ∨ op2 ≠ 4 := .inr h'
    obtain ⟨hy, rfl⟩ := h2 hcase
    obtain ⟨rfl, rfl, rfl, rfl, rfl, hys⟩ := Stp.mk.inj hy
    have hdz := hd3
    have hqz := hqf
    have hnz := hdn
    have hgz := hg3'
    have htz := hdt.trans hys.symm
    cbv
    obtain ⟨L5, hv5, hl5, hg5, hx5⟩ := DT.shutS E _ _ _ _ _ d L3 q hdz (List.nodup_cons.2 ⟨hqz, hnz⟩) hgz yi yk ys yks htz
    refine EW.vsB (hv5 _ _) ?_
    with_reducible refine EW.of ?_
    cbv
    (simp only [← List.get?Internal.eq_def]; rw [show L5.get?Internal q = _ from hg5]; cbv)
    ((try cbv) <;> (repeat ((with_reducible refine EW.of ?_); cbv)))
    exact And.intro p1 trivial
  have h' : op2 = 4 := eq_t h' rfl rfl
  cbv
  (simp only [← List.get?Internal.eq_def]; rw [show L3.get?Internal 1 = _ from k1']; cbv)
  (simp only [← List.get?Internal.eq_def]; rw [show L3.get?Internal 1 = _ from k1']; cbv)
  obtain ⟨hy, hr⟩ := h1 h h'
  obtain ⟨rfl, rfl, rfl, rfl, rfl, hys⟩ := Stp.mk.inj hy
  have htT := textD_tree id2 tx2 d
  rw [hdt] at htT
  rw [htT] at hys hr
  obtain ⟨d4, hdd4⟩ : ∃ d4, d4 = (textD id2 tx2 d).1 := ⟨_, rfl⟩
  have hf4 : d4.foot = d.foot := by rw [hdd4]; exact textD_foot ..
  have hB := textedB A E hP yop yid ypar ypl ytx id2 tx2 n d L3 q (by rw [hdt]; exact hwa) hd3 (List.nodup_cons.2 ⟨hqf, hdn⟩) hg3'
  refine ⟨Ent.of (hP ▸ Try.func43) rfl, TC.mono hB ?_⟩
  rintro x L4 ⟨rfl, hl4, hg4, hd4, hs4⟩
  rw [← hdd4] at hg4 hd4 hys
  have htz := hys.symm
  dsimp only at hr
  rw [← hr]
  cbv
  obtain ⟨L5, hv5, hl5, hg5, hx5⟩ := DT.shutS E _ _ _ _ _ d4 L4 q hd4 (List.nodup_cons.2 ⟨by rw [hf4]; exact hqf, by rw [hf4]; exact hdn⟩) hg4 yi yk ys yks htz
  refine EW.vsB (hv5 _ _) ?_
  with_reducible refine EW.of ?_
  cbv
  (simp only [← List.get?Internal.eq_def]; rw [show L5.get?Internal q = _ from hg5]; cbv)
  ((try cbv) <;> (repeat ((with_reducible refine EW.of ?_); cbv)))
  exact And.intro p1 trivial
end Go.Proofs.Ytaieiigfheabfaa
