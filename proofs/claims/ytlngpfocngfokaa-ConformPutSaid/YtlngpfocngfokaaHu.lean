import Derived.Test.YtlngpfocngfokaaHt
/-! ConformPut. -/
namespace Go.Proofs.Ytlngpfocngfokaa
open Go.Proofs.Ytlngpfocngfokaa.Tw
set_option maxHeartbeats 8000000 in
theorem law9 (A : Ar) (E : Em) (G : EmG) (H : EmN) (R : EmR) (M : EmI) (J : EmJ) {P : Program} (hP : P = Try.prog) (g : Gra) (hg : g.ok) (t : Tree) (hok : t.ok) (x : Tree) (hox : x.ok) (k : Int) : TPure P 9 [G.gv g, E.tree.v t, E.tree.v x, .int .i64 k] (.bool true) := by
  have h25 := wakes25 A E G H R M hP
  have h10 := Great10 A E G hP g hg
  have h24 := Great24 A E hP t hok
  have h24x := Great24 A E hP x hox
  have h23 : TPure P 34 [t.av, .int .i64 251] (.sl 5 (spots (walkT 251 t [] 1))) := Walk23 A hP 251 (by decide) (by decide) t hok
  have hlt := fun h => great3_low (t := t) h
  have hlx := fun h => great3_low (t := x) h
  have c26 := fun h => Tree26 A E G H R M hP g hg 250 (by decide) t h
  have c28 := fun h => Sub28 A E G H R M hP g hg 250 (by decide) x h
  simp only [subR_subP] at c28
  have hot := fun h => great3_ord (t := t) h
  -- what is known once t and x are known to be small, and k to be a place
  have cput := fun (kn : Nat) (h : great3 t = false) => put35 A E hP x kn (SizeOf.sizeOf t) t 0 (Nat.le_refl _) (by have := hot h; omega)
  have cwalk := fun (kn : Nat) => (Walk23 A hP 1000 (by decide) (by decide) (putT x kn t 0).1 (put_ok x kn hox t 0 hok) : TPure P 34 [(putT x kn t 0).1.av, .int .i64 1000] (.sl 5 (spots (walkT 1000 (putT x kn t 0).1 [] 1))))
  have ctree := fun (kn : Nat) (h : (ordT (putT x kn t 0).1 1).length ≤ 200) => Tree26 A E G H R M hP g hg 200 (by decide) (putT x kn t 0).1 (low_ord 200 _ 1 (by decide) h)
  have cconf := fun (kn dv : Nat) (v : Tree) h1 h2 hk hv hl hd hn => put_conf (g := g) (t := t) (x := x) (v := v) (k := kn) (dv := dv) h1 h2 hk hv hl hd hn
  obtain ⟨bg, hbg⟩ : ∃ b, b = greatG g := ⟨_, rfl⟩
  rw [← hbg] at h10
  obtain ⟨bt, hbt⟩ : ∃ b, b = great3 t := ⟨_, rfl⟩
  rw [← hbt] at h24 hlt cput hot
  obtain ⟨bx, hbx⟩ : ∃ b, b = great3 x := ⟨_, rfl⟩
  rw [← hbx] at h24x hlx
  obtain ⟨v1, v2, hv⟩ : ∃ v1 v2, (v1, v2) = treeP g t := ⟨_, _, rfl⟩
  rw [← hv] at c26 cconf
  obtain ⟨s1, s2, hs⟩ : ∃ s1 s2, (s1, s2) = subP g x := ⟨_, _, rfl⟩
  rw [← hs] at c28 cconf
  obtain ⟨lw, hlw⟩ : ∃ p : Prop, p = low 250 t := ⟨_, rfl⟩
  rw [← hlw] at hlt c26
  obtain ⟨lx, hlxx⟩ : ∃ p : Prop, p = low 250 x := ⟨_, rfl⟩
  rw [← hlxx] at hlx c28
  have hwt := walkT_ord 251 t [] 1 (by simp)
  obtain ⟨sp, hsp⟩ : ∃ sp, sp = walkT 251 t [] 1 := ⟨_, rfl⟩
  rw [← hsp] at h23 hwt
  have hget : ∀ (j : Nat) (u : Tree × Nat), sp[j]? = some u → (ordT t 1)[j]? = some u := fun j u hu => by
    rw [hwt] at hu
    simp only [List.nil_append, List.length_nil] at hu
    rw [List.getElem?_take] at hu
    split at hu
    · exact hu
    · cases hu
  have hll := E.spot.len sp
  have hlk : A.len (E.spot.l sp) = (sp.length : Int) := by rw [A.ok_len, hll]
  simp only [E.av, E.spots] at h23 cwalk
  obtain ⟨i, kt, s, ks, ht⟩ : ∃ i k s ks, t = Tree.node i k s ks := by cases t; exact ⟨_, _, _, _, rfl⟩
  have eT : E.tree.v t = .agg [.int .i64 i, .int .i64 kt, .str s, .sl 4 (E.tree.l ks)] := by rw [ht]; exact E.node ..
  obtain ⟨ix, kx, sx, kxs, hx⟩ : ∃ i k s ks, x = Tree.node i k s ks := by cases x; exact ⟨_, _, _, _, rfl⟩
  have eX : E.tree.v x = .agg [.int .i64 ix, .int .i64 kx, .str sx, .sl 4 (E.tree.l kxs)] := by rw [hx]; exact E.node ..
  have kX : kindT x = kx := by rw [hx]; rfl
  obtain ⟨gk, root, eG⟩ : ∃ gk root, G.gv g = .agg [.sl 3 (G.kind.l gk), .int .i64 root] := ⟨_, _, rfl⟩
  rw [eT, eX, eG]
  rw [eT] at h23 h24
  rw [eX] at h24x
  rw [eG] at h10
  simp only [eT, eX, eG] at c26 c28 cput ctree
  have p2 : Tw.Pur [.sl 3 (G.kind.l gk), .int .i64 root] := Pur.mk (by (repeat (first | exact rfl | exact Emb.purL _ _ | assumption | apply pur_cons | apply pur_sl | apply pur_slt | apply pur_agg | apply pur_tup)))
  have p3 : Tw.Pur [.int .i64 i, .int .i64 kt, .str s, .sl 4 (E.tree.l ks)] := Pur.mk (by (repeat (first | exact rfl | exact Emb.purL _ _ | assumption | apply pur_cons | apply pur_sl | apply pur_slt | apply pur_agg | apply pur_tup)))
  have p4 : Tw.Pur [.int .i64 ix, .int .i64 kx, .str sx, .sl 4 (E.tree.l kxs)] := Pur.mk (by (repeat (first | exact rfl | exact Emb.purL _ _ | assumption | apply pur_cons | apply pur_sl | apply pur_slt | apply pur_agg | apply pur_tup)))
  refine TPure.ofE A T0 (T0_ok hP) (hP ▸ Try.func9) rfl _ rfl (by simp) ?_
  cbv
  ((try cbv) <;> (repeat ((with_reducible refine EW.of ?_); cbv)))
  (refine ⟨Ent.of (hP ▸ Try.func10) rfl, ?_⟩; refine TC.pureE h10 ?_; cbv; (repeat (first | exact trivial | refine And.intro (Emb.Pur _ _) ?_ | refine And.intro rfl ?_ | refine And.intro (Pur.mk rfl) ?_ | refine And.intro (Pur.mk (by assumption)) ?_)); ((try cbv) <;> (repeat ((with_reducible refine EW.of ?_); cbv))))
  refine bsplit (fun h1 => ?_) (fun h1 => ?_)
  · skip
    ((try cbv) <;> (repeat ((with_reducible refine EW.of ?_); cbv)))
    (refine ⟨Ent.of (hP ▸ Try.func25) rfl, ?_⟩; refine TC.pureE h25 ?_; cbv; (repeat (first | exact trivial | refine And.intro (Emb.Pur _ _) ?_ | refine And.intro rfl ?_ | refine And.intro (Pur.mk rfl) ?_ | refine And.intro (Pur.mk (by assumption)) ?_)); ((try cbv) <;> (repeat ((with_reducible refine EW.of ?_); cbv))))
  ((try cbv) <;> (repeat ((with_reducible refine EW.of ?_); cbv)))
  (refine ⟨Ent.of (hP ▸ Try.func24) rfl, ?_⟩; refine TC.pureE h24 ?_; cbv; (repeat (first | exact trivial | refine And.intro (Emb.Pur _ _) ?_ | refine And.intro rfl ?_ | refine And.intro (Pur.mk rfl) ?_ | refine And.intro (Pur.mk (by assumption)) ?_)); ((try cbv) <;> (repeat ((with_reducible refine EW.of ?_); cbv))))
  refine bsplit (fun h2 => ?_) (fun h2 => ?_)
  · skip
    ((try cbv) <;> (repeat ((with_reducible refine EW.of ?_); cbv)))
    (refine ⟨Ent.of (hP ▸ Try.func25) rfl, ?_⟩; refine TC.pureE h25 ?_; cbv; (repeat (first | exact trivial | refine And.intro (Emb.Pur _ _) ?_ | refine And.intro rfl ?_ | refine And.intro (Pur.mk rfl) ?_ | refine And.intro (Pur.mk (by assumption)) ?_)); ((try cbv) <;> (repeat ((with_reducible refine EW.of ?_); cbv))))
  ((try cbv) <;> (repeat ((with_reducible refine EW.of ?_); cbv)))
  (refine ⟨Ent.of (hP ▸ Try.func24) rfl, ?_⟩; refine TC.pureE h24x ?_; cbv; (repeat (first | exact trivial | refine And.intro (Emb.Pur _ _) ?_ | refine And.intro rfl ?_ | refine And.intro (Pur.mk rfl) ?_ | refine And.intro (Pur.mk (by assumption)) ?_)); ((try cbv) <;> (repeat ((with_reducible refine EW.of ?_); cbv))))
  refine bsplit (fun h3 => ?_) (fun h3 => ?_)
  · skip
    ((try cbv) <;> (repeat ((with_reducible refine EW.of ?_); cbv)))
    (refine ⟨Ent.of (hP ▸ Try.func25) rfl, ?_⟩; refine TC.pureE h25 ?_; cbv; (repeat (first | exact trivial | refine And.intro (Emb.Pur _ _) ?_ | refine And.intro rfl ?_ | refine And.intro (Pur.mk rfl) ?_ | refine And.intro (Pur.mk (by assumption)) ?_)); ((try cbv) <;> (repeat ((with_reducible refine EW.of ?_); cbv))))
  have c26 := c26 (hlt h2)
  have c28 := c28 (hlx h3)
  have cput := fun kn => cput kn h2
  ((try cbv) <;> (repeat ((with_reducible refine EW.of ?_); cbv)))
  (refine ⟨Ent.of (hP ▸ Try.func26) rfl, ?_⟩; refine TC.pureE c26 ?_; cbv; (repeat (first | exact trivial | refine And.intro (Emb.Pur _ _) ?_ | refine And.intro rfl ?_ | refine And.intro (Pur.mk rfl) ?_ | refine And.intro (Pur.mk (by assumption)) ?_)); ((try cbv) <;> (repeat ((with_reducible refine EW.of ?_); cbv))))
  ((try cbv) <;> (repeat ((with_reducible refine EW.of ?_); cbv)))
  (refine ⟨Ent.of (hP ▸ Try.func28) rfl, ?_⟩; refine TC.pureE c28 ?_; cbv; (repeat (first | exact trivial | refine And.intro (Emb.Pur _ _) ?_ | refine And.intro rfl ?_ | refine And.intro (Pur.mk rfl) ?_ | refine And.intro (Pur.mk (by assumption)) ?_)); ((try cbv) <;> (repeat ((with_reducible refine EW.of ?_); cbv))))
  ((try cbv) <;> (repeat ((with_reducible refine EW.of ?_); cbv)))
  (refine ⟨Ent.of (hP ▸ Try.func34) rfl, ?_⟩; refine TC.pureE h23 ?_; cbv; (repeat (first | exact trivial | refine And.intro (Emb.Pur _ _) ?_ | refine And.intro rfl ?_ | refine And.intro (Pur.mk rfl) ?_ | refine And.intro (Pur.mk (by assumption)) ?_)); ((try cbv) <;> (repeat ((with_reducible refine EW.of ?_); cbv))))
  refine TW.vsE [(13, .sl 5 (E.spot.l sp)), (12, .int .i64 s2), (10, .int .i64 v2), (8, .bool false), (6, .imm [.int .i64 ix, .int .i64 kx, .str sx, .sl 4 (E.tree.l kxs)]), (5, .imm [.int .i64 i, .int .i64 kt, .str s, .sl 4 (E.tree.l ks)]), (4, .imm [.sl 3 (G.kind.l gk), .int .i64 root]), (3, .int .i64 k)] [] 126 rfl ?_
  cbv
  (repeat (first | exact trivial | refine And.intro (Emb.Pur _ _) ?_ | refine And.intro (inc_eq A (by omega)) ?_ | refine And.intro rfl ?_ | refine And.intro p2 ?_ | refine And.intro p3 ?_ | refine And.intro p4 ?_))
  (refine TW.draw (A := A) (T0_ok hP) (hP ▸ follows_mixed) (by kernel_rfl) rfl ?_; cbv)
  refine bsplit (fun h4 => ?_) (fun h4 => ?_)
  · cbv
    ((try cbv) <;> (repeat ((with_reducible refine EW.of ?_); cbv)))
    (refine ⟨Ent.of (hP ▸ Try.func25) rfl, ?_⟩; refine TC.pureE h25 ?_; cbv; (repeat (first | exact trivial | refine And.intro (Emb.Pur _ _) ?_ | refine And.intro rfl ?_ | refine And.intro (Pur.mk rfl) ?_ | refine And.intro (Pur.mk (by assumption)) ?_)); ((try cbv) <;> (repeat ((with_reducible refine EW.of ?_); cbv))))
  cbv
  refine bsplit (fun h5 => ?_) (fun h5 => ?_)
  · cbv
    ((try cbv) <;> (repeat ((with_reducible refine EW.of ?_); cbv)))
    (refine ⟨Ent.of (hP ▸ Try.func25) rfl, ?_⟩; refine TC.pureE h25 ?_; cbv; (repeat (first | exact trivial | refine And.intro (Emb.Pur _ _) ?_ | refine And.intro rfl ?_ | refine And.intro (Pur.mk rfl) ?_ | refine And.intro (Pur.mk (by assumption)) ?_)); ((try cbv) <;> (repeat ((with_reducible refine EW.of ?_); cbv))))
  cbv
  refine bsplit (fun h6 => ?_) (fun h6 => ?_)
  · cbv
    ((try cbv) <;> (repeat ((with_reducible refine EW.of ?_); cbv)))
    (refine ⟨Ent.of (hP ▸ Try.func25) rfl, ?_⟩; refine TC.pureE h25 ?_; cbv; (repeat (first | exact trivial | refine And.intro (Emb.Pur _ _) ?_ | refine And.intro rfl ?_ | refine And.intro (Pur.mk rfl) ?_ | refine And.intro (Pur.mk (by assumption)) ?_)); ((try cbv) <;> (repeat ((with_reducible refine EW.of ?_); cbv))))
  cbv
  refine bsplit (fun h7 => ?_) (fun h7 => ?_)
  · cbv
    ((try cbv) <;> (repeat ((with_reducible refine EW.of ?_); cbv)))
    (refine ⟨Ent.of (hP ▸ Try.func25) rfl, ?_⟩; refine TC.pureE h25 ?_; cbv; (repeat (first | exact trivial | refine And.intro (Emb.Pur _ _) ?_ | refine And.intro rfl ?_ | refine And.intro (Pur.mk rfl) ?_ | refine And.intro (Pur.mk (by assumption)) ?_)); ((try cbv) <;> (repeat ((with_reducible refine EW.of ?_); cbv))))
  cbv
  have h4 : v2 = 0 := ne_f h4 rfl rfl
  have h5 : s2 = 0 := ne_f h5 rfl rfl
  have h6 : 0 ≤ k := lt_f h6 rfl rfl
  have h7 : k < (sp.length : Int) := le_f h7 hlk rfl
  subst h4 h5
  obtain ⟨kn, rfl⟩ : ∃ kn : Nat, k = (kn : Int) := ⟨k.toNat, by omega⟩
  obtain ⟨⟨v, dv⟩, hgv⟩ : ∃ u, sp[kn]? = some u := ⟨_, List.getElem?_eq_getElem (by omega)⟩
  have hkv := hget _ _ hgv
  obtain ⟨iv, kv, sv, ksv, hv⟩ : ∃ i k s ks, v = Tree.node i k s ks := by cases v; exact ⟨_, _, _, _, rfl⟩
  rw [hv] at hgv
  have hgx := E.gets hgv
  have kV : kindT v = kv := by rw [hv]; rfl
  refine ⟨kn, _, rfl, hgx, ?_⟩
  cbv
  ((try cbv) <;> (repeat ((with_reducible refine EW.of ?_); cbv)))
  refine bsplit (fun h8 => ?_) (fun h8 => ?_)
  · skip
    ((try cbv) <;> (repeat ((with_reducible refine EW.of ?_); cbv)))
    (refine ⟨Ent.of (hP ▸ Try.func25) rfl, ?_⟩; refine TC.pureE h25 ?_; cbv; (repeat (first | exact trivial | refine And.intro (Emb.Pur _ _) ?_ | refine And.intro rfl ?_ | refine And.intro (Pur.mk rfl) ?_ | refine And.intro (Pur.mk (by assumption)) ?_)); ((try cbv) <;> (repeat ((with_reducible refine EW.of ?_); cbv))))
  have h8 : kv = kx := ne_f h8 rfl rfl
  have hkk : kindT v = kindT x := by rw [kV, kX, h8]
  have cput := cput kn
  have cwalk := cwalk kn
  have ctree := ctree kn
  have cconf := cconf kn dv v rfl rfl hkv hkk
  obtain ⟨y, hy⟩ : ∃ y, y = (putT x kn t 0).1 := ⟨_, rfl⟩
  obtain ⟨cy, cput⟩ : ∃ c : Int, TC1 P 35 [.agg [.int .i64 i, .int .i64 kt, .str s, .sl 4 (E.tree.l ks)], .agg [.int .i64 ix, .int .i64 kx, .str sx, .sl 4 (E.tree.l kxs)], .int .i64 (kn : Int), .ref 0 1 0 0] [some (.box 1 (.int .i64 0))] (E.tree.v (putT x kn t 0).1) [some (.box 1 (.int .i64 c))] := ⟨_, cput⟩
  rw [← hy] at cput
  rw [← hy] at cwalk ctree cconf
  have hwy := walkT_ord 1000 y [] 1 (by simp)
  obtain ⟨mm, hmm⟩ : ∃ sp, sp = walkT 1000 y [] 1 := ⟨_, rfl⟩
  rw [← hmm] at cwalk hwy
  have hwhole : mm.length ≤ 200 → ordT y 1 = mm := fun h => by
    simp only [List.nil_append, List.length_nil] at hwy
    rw [hwy, List.length_take] at h
    rw [hwy, List.take_of_length_le (by omega)]
  generalize ordT y 1 = oy at ctree cconf hwhole
  obtain ⟨w1, w2, hw⟩ : ∃ w1 w2, (w1, w2) = treeP g y := ⟨_, _, rfl⟩
  rw [← hw] at ctree cconf
  dsimp only at ctree cconf
  have hlm := E.spot.len mm
  have hlmm : A.len (E.spot.l mm) = (mm.length : Int) := by rw [A.ok_len, hlm]
  obtain ⟨iy, ky, sy, ksy, hny⟩ : ∃ i k s ks, y = Tree.node i k s ks := by cases y; exact ⟨_, _, _, _, rfl⟩
  have eY : E.tree.v y = .agg [.int .i64 iy, .int .i64 ky, .str sy, .sl 4 (E.tree.l ksy)] := by rw [hny]; exact E.node ..
  rw [eY] at cput cwalk ctree
  have p5 : Tw.Pur [.int .i64 iy, .int .i64 ky, .str sy, .sl 4 (E.tree.l ksy)] := Pur.mk (by (repeat (first | exact rfl | exact Emb.purL _ _ | assumption | apply pur_cons | apply pur_sl | apply pur_slt | apply pur_agg | apply pur_tup)))
  cbv
  ((try cbv) <;> (repeat ((with_reducible refine EW.of ?_); cbv)))
  refine ⟨Ent.of (hP ▸ Try.func35) rfl, TC1.call [0] cput ?_⟩
  cbv
  (repeat (first | exact trivial | refine And.intro (Emb.Pur _ _) ?_ | refine And.intro (inc_eq A (by omega)) ?_ | refine And.intro rfl ?_ | refine And.intro p2 ?_ | refine And.intro p3 ?_ | refine And.intro p4 ?_))
  ((try cbv) <;> (repeat ((with_reducible refine EW.of ?_); cbv)))
  (refine ⟨Ent.of (hP ▸ Try.func34) rfl, ?_⟩; refine TC.pureE cwalk ?_; cbv; (repeat (first | exact trivial | refine And.intro (Emb.Pur _ _) ?_ | refine And.intro rfl ?_ | refine And.intro (Pur.mk rfl) ?_ | refine And.intro (Pur.mk (by assumption)) ?_)); ((try cbv) <;> (repeat ((with_reducible refine EW.of ?_); cbv))))
  refine bsplit (fun h9 => ?_) (fun h9 => ?_)
  · skip
    ((try cbv) <;> (repeat ((with_reducible refine EW.of ?_); cbv)))
    (refine ⟨Ent.of (hP ▸ Try.func25) rfl, ?_⟩; refine TC.pureE h25 ?_; cbv; (repeat (first | exact trivial | refine And.intro (Emb.Pur _ _) ?_ | refine And.intro rfl ?_ | refine And.intro (Pur.mk rfl) ?_ | refine And.intro (Pur.mk (by assumption)) ?_)); ((try cbv) <;> (repeat ((with_reducible refine EW.of ?_); cbv))))
  have h9 : mm.length ≤ 200 := lt_nf (i := 200) h9 rfl hlmm
  have hwhole := hwhole h9
  subst hwhole
  have ctree := ctree h9
  have cconf := cconf h9
  ((try cbv) <;> (repeat ((with_reducible refine EW.of ?_); cbv)))
  have hJ0 : ([] : Ents) = J.l [] := J.nil.symm
  have hJ1 : 0 = J.c [] := J.cnil.symm
  obtain ⟨S, hS⟩ : ∃ S : LI (Nat × List Int), S = ⟨fun z => [(87, .int .i64 z.1), (86, .int .i64 (A.len (E.spot.l oy))), (17, .map 0), (16, .sl 5 (E.spot.l oy)), (15, .imm [.int .i64 iy, .int .i64 ky, .str sy, .sl 4 (E.tree.l ksy)]), (8, .bool false), (6, .imm [.int .i64 ix, .int .i64 kx, .str sx, .sl 4 (E.tree.l kxs)]), (5, .imm [.int .i64 i, .int .i64 kt, .str s, .sl 4 (E.tree.l ks)]), (4, .imm [.sl 3 (G.kind.l gk), .int .i64 root])], fun z => [some (.mp (J.c z.2) (J.l z.2))], fun z => z.1 ≤ oy.length ∧ z.2 = idsL (oy.take z.1) ∧ z.2.Nodup ∧ ∀ u ∈ oy.take z.1, u.2 ≤ 32, fun z => oy.length - z.1⟩ := ⟨_, rfl⟩
  refine TW.loopM A (T0_ok hP) S _ rfl (0, []) ?_ ?_ ?_
  · rw [hS]; exact ⟨Nat.zero_le _, rfl, List.nodup_nil, fun u hu => by cases hu⟩
  · rw [hS]
    cbv
    (repeat (first | exact trivial | refine And.intro (Emb.Pur _ _) ?_ | refine And.intro (J.pur _) ?_ | refine And.intro hJ0 ?_ | refine And.intro hJ1 ?_ | refine And.intro (inc_eq A (by omega)) ?_ | refine And.intro rfl ?_ | refine And.intro p2 ?_ | refine And.intro p3 ?_ | refine And.intro p4 ?_ | refine And.intro p5 ?_))
  rintro ⟨j, ids⟩ hj l1 L1 e1 e2
  rw [hS] at hj e1 e2
  dsimp only at hj e1 e2
  obtain ⟨hj, hids, hnd, hdep⟩ := hj
  subst e1 e2
  cbv
  ((try cbv) <;> (repeat ((with_reducible refine EW.of ?_); cbv)))
  refine bsplit (fun h10 => ?_) (fun h10 => ?_)
  · have h10 : j < oy.length := lt_nt h10 rfl hlmm
    obtain ⟨⟨t', d'⟩, hxj⟩ : ∃ x, oy[j]? = some x := ⟨_, List.getElem?_eq_getElem h10⟩
    have htk : oy.take (j + 1) = oy.take j ++ [(t', d')] := by rw [List.take_add_one, hxj]; rfl
    have hidk := idsL_take hxj
    rw [← hids] at hidk
    obtain ⟨i', k', s', ks', ht'⟩ : ∃ i k s ks, t' = Tree.node i k s ks := by cases t'; exact ⟨_, _, _, _, rfl⟩
    have hI : idT t' = i' := by rw [ht']; rfl
    rw [hI] at hidk
    rw [ht'] at hxj
    have hgx := E.gets hxj
    ((try cbv) <;> (repeat ((with_reducible refine EW.of ?_); cbv)))
    (refine ⟨_, _, rfl, hgx, ?_⟩; cbv; ((try cbv) <;> (repeat ((with_reducible refine EW.of ?_); cbv))))
    refine bsplit (fun h11 => ?_) (fun h11 => ?_)
    · skip
      ((try cbv) <;> (repeat ((with_reducible refine EW.of ?_); cbv)))
      (refine ⟨Ent.of (hP ▸ Try.func25) rfl, ?_⟩; refine TC.pureE h25 ?_; cbv; (repeat (first | exact trivial | refine And.intro (Emb.Pur _ _) ?_ | refine And.intro rfl ?_ | refine And.intro (Pur.mk rfl) ?_ | refine And.intro (Pur.mk (by assumption)) ?_)); ((try cbv) <;> (repeat ((with_reducible refine EW.of ?_); cbv))))
    have h11 : d' ≤ 32 := lt_nf (i := 32) h11 rfl rfl
    ((try cbv) <;> (repeat ((with_reducible refine EW.of ?_); cbv)))
    (refine ⟨_, _, rfl, hgx, ?_⟩; cbv; ((try cbv) <;> (repeat ((with_reducible refine EW.of ?_); cbv))))
    by_cases hm : i' ∈ ids
    · refine ⟨J.keys ids i', some (.bool true), J.lkY hm, ?_⟩
      cbv
      ((try cbv) <;> (repeat ((with_reducible refine EW.of ?_); cbv)))
      (refine ⟨Ent.of (hP ▸ Try.func25) rfl, ?_⟩; refine TC.pureE h25 ?_; cbv; (repeat (first | exact trivial | refine And.intro (Emb.Pur _ _) ?_ | refine And.intro rfl ?_ | refine And.intro (Pur.mk rfl) ?_ | refine And.intro (Pur.mk (by assumption)) ?_)); ((try cbv) <;> (repeat ((with_reducible refine EW.of ?_); cbv))))
    refine ⟨J.keys ids i', none, J.lkN hm, ?_⟩
    cbv
    ((try cbv) <;> (repeat ((with_reducible refine EW.of ?_); cbv)))
    (refine ⟨_, _, rfl, hgx, ?_⟩; cbv; ((try cbv) <;> (repeat ((with_reducible refine EW.of ?_); cbv))))
    refine ⟨J.keys ids i', _, _, J.up hm, ?_⟩
    cbv
    ((try cbv) <;> (repeat ((with_reducible refine EW.of ?_); cbv)))
    refine LM.of (j + 1, ids ++ [i']) rfl ?_ ?_ ?_
    · rw [hS]; exact ⟨h10, hidk.symm, List.nodup_append.2 ⟨hnd, by simp, fun a ha b hb e => hm (by simp at hb; rw [← hb, ← e]; exact ha)⟩, by
        show ∀ u ∈ oy.take (j + 1), u.2 ≤ 32
        rw [htk]
        intro u hu
        rcases List.mem_append.1 hu with hu | hu
        · exact hdep u hu
        · rw [List.mem_singleton.1 hu]; exact h11⟩
    · rw [hS]; show oy.length - (j + 1) < oy.length - j; omega
    · rw [hS]
      cbv
      (repeat (first | exact trivial | refine And.intro (Emb.Pur _ _) ?_ | refine And.intro (J.pur _) ?_ | refine And.intro hJ0 ?_ | refine And.intro hJ1 ?_ | refine And.intro (inc_eq A (by omega)) ?_ | refine And.intro rfl ?_ | refine And.intro p2 ?_ | refine And.intro p3 ?_ | refine And.intro p4 ?_ | refine And.intro p5 ?_))
  · have h10 : oy.length ≤ j := lt_nf h10 rfl hlmm
    rw [List.take_of_length_le h10] at hids hdep
    have hw2 : w2 = 0 := cconf hdep (hids ▸ hnd)
    subst hw2
    ((try cbv) <;> (repeat ((with_reducible refine EW.of ?_); cbv)))
    (refine ⟨Ent.of (hP ▸ Try.func26) rfl, ?_⟩; refine TC.pureE ctree ?_; cbv; (repeat (first | exact trivial | refine And.intro (Emb.Pur _ _) ?_ | refine And.intro rfl ?_ | refine And.intro (Pur.mk rfl) ?_ | refine And.intro (Pur.mk (by assumption)) ?_)); ((try cbv) <;> (repeat ((with_reducible refine EW.of ?_); cbv))))
    ((try cbv) <;> (repeat ((with_reducible refine EW.of ?_); cbv)))
    refine byes (eqT rfl) ?_
    ((try cbv) <;> (repeat ((with_reducible refine EW.of ?_); cbv)))
    (refine ⟨Ent.of (hP ▸ Try.func25) rfl, ?_⟩; refine TC.pureE h25 ?_; cbv; (repeat (first | exact trivial | refine And.intro (Emb.Pur _ _) ?_ | refine And.intro rfl ?_ | refine And.intro (Pur.mk rfl) ?_ | refine And.intro (Pur.mk (by assumption)) ?_)); ((try cbv) <;> (repeat ((with_reducible refine EW.of ?_); cbv))))
end Go.Proofs.Ytlngpfocngfokaa
