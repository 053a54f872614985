import Derived.Test.YtpjibokaeefhiaaXd
/-! place.Put. -/
namespace Go.Proofs.Ytpjibokaeefhiaa
open Go.Proofs.Ytpjibokaeefhiaa.Tw
def putO (id : Int) (t x : Tree) : Option (List Nat) → Tree × Int
  | none => (.node 0 0 ⟨#[]⟩ [], 4)
  | some p => (putX x t p, 0)
theorem okP_len : ∀ {path : List Nat} {n : Nat} {i k : Int} {s : ByteArray} {ks : List Tree}, within n (.node i k s ks) → okP ks path → path.length ≤ n
  | [], _, _, _, _, _, _, _ => Nat.zero_le _
  | [_], n, _, _, _, _, h, _ => by
    cases n with
    | zero => exact h.elim
    | succ n => simp
  | i :: j :: path, n, _, _, _, ks, h, ⟨ki, kk, s, kks, h1, h2⟩ => by
    cases n with
    | zero => exact h.elim
    | succ n =>
      have := okP_len (h.2 _ (List.mem_of_getElem? h1)) h2
      simp at this ⊢
      omega
theorem EW.vsA {A : Ar} {T : TyOps} {P : Program} {r : Option Nat} {K : Nat} {c : Code} {Q : AEx → AFr → Store → Prop} {fr fr' : AFr} {L L' : Store} (h : VS K fr L fr' L') (k : EW A T P r K c Q fr' L') : EW A T P r K c Q fr L := ⟨fun hT => Tw.vs h (k.h hT)⟩
/-- Where the pointer stands when j parts of the path are gone. -/
def PutAt (E : Em) (L : Store) (pp : List Nat) (pe j : Nat) (spot : AV) : Prop :=
  (j < pp.length ∧ ∃ (a b : Nat) (ki kk : Int) (s : ByteArray) (kks : List Tree) (p' : Nat) (ps' : List Nat), spot = .ref a 4 b 0 ∧ ((L[a]? = some (some (.box 4 (.agg [.int .i64 ki, .int .i64 kk, .str s, .row p' 4 0 kks.length]))) ∧ b = 0) ∨ ∃ els, L[a]? = some (some (.arr 4 els)) ∧ els[b]? = some (.agg [.int .i64 ki, .int .i64 kk, .str s, .row p' 4 0 kks.length])) ∧ Sp E L (p' :: ps') kks (pp.drop j) ∧ endP (p' :: ps') = pe ∧ endI (pp.drop j) = endI pp) ∨
    (j = pp.length ∧ spot = .ref pe 4 (endI pp) 0)
theorem PutAt.next {E : Em} {L : Store} {pp : List Nat} {pe j ix0 : Nat} {kks : List Tree} {p' : Nat} {ps' : List Nat} (hix : pp[j]? = some ix0) (hs : Sp E L (p' :: ps') kks (pp.drop j)) (he1 : endP (p' :: ps') = pe) (he2 : endI (pp.drop j) = endI pp) : PutAt E L pp pe (j + 1) (.ref p' 4 ix0 0) := by
  have hd : pp.drop j = ix0 :: pp.drop (j + 1) := by rw [List.drop_eq_getElem?_toList_append, hix]; rfl
  have hlt := (List.getElem?_eq_some_iff.1 hix).1
  have hln : (pp.drop (j + 1)).length = pp.length - (j + 1) := List.length_drop
  rw [hd] at hs he2
  cases ps' with
  | nil =>
    cases hr : pp.drop (j + 1) with
    | nil =>
      rw [hr] at hln he2
      exact .inr ⟨by simp at hln; omega, by rw [← he1, ← he2]; rfl⟩
    | cons i2 r => rw [hr] at hs; exact hs.elim
  | cons q2 ps2 =>
    cases hr : pp.drop (j + 1) with
    | nil => rw [hr] at hs; exact hs.elim
    | cons i2 r =>
      rw [hr] at hs he2 hln
      obtain ⟨ki, kk, s, kks2, ha, hb, hc⟩ := hs
      refine .inl ⟨by simp at hln; omega, p', ix0, ki, kk, s, kks2, q2, ps2, rfl, .inr ⟨_, hb, List.getElem?_set_self (by rw [E.tree.len]; exact (List.getElem?_eq_some_iff.1 ha).1)⟩, by rw [hr]; exact hc, he1, by rw [hr]; exact he2⟩
set_option maxHeartbeats 2000000 in
theorem PutX (A : Ar) (E : Em) {P : Program} (hP : P = Try.prog) (id : Int) (n : Nat) (hn : n ≤ 1000000) (t : Tree) (hw : within n t) (x : Tree) (hwx : within n x) (po : Option (List Nat)) (hpo : pathT id t = po.map (·.map Int.ofNat)) (hok : ∀ p, po = some p → p = [] ∨ okP (kidsX t) p) :
    TPure P 32 [E.tree.v t, .int .i64 id, E.tree.v x] (.tup [E.tree.v (putO id t x po).1, .int .i64 (putO id t x po).2]) := by
  have h26 := Path26 A hP id n hn t hw
  have hcx := copy63 A E hP n x hwx
  have hct := copy63 A E hP n t hw
  have hsp := copySp A E hP
  rw [hpo] at h26
  simp only [E.av, pathAV, E.ints] at h26
  obtain ⟨i, k, s, ks⟩ := t
  obtain ⟨ix, kx, sx, kxs, hx⟩ : ∃ i k s ks, x = Tree.node i k s ks := by cases x; exact ⟨_, _, _, _, rfl⟩
  have eX : E.tree.v x = .agg [.int .i64 ix, .int .i64 kx, .str sx, .sl 4 (E.tree.l kxs)] := by rw [hx]; exact E.node ..
  rw [eX] at hcx ⊢
  rw [E.node] at h26 hct ⊢
  cases po with
  | none =>
    replace h26 : TPure P _ _ (.tup [.sl 1 (E.int.l []), .bool false]) := h26
    rw [show E.tree.v (putO id (.node i k s ks) x none).1 = .agg [.int .i64 0, .int .i64 0, .str ⟨#[]⟩, .sl 4 (E.tree.l [])] from E.node ..]
    rw [E.tree.nil]
    refine TPure.ofE A T0 (T0_ok hP) (hP ▸ Try.func32) rfl _ rfl (by simp) ?_
    cbv
    ((try cbv) <;> (repeat ((with_reducible refine EW.of ?_); cbv)))
    (refine ⟨Ent.of (hP ▸ Try.func26) rfl, ?_⟩; refine TC.pureE h26 ?_; cbv; (repeat (first | exact trivial | refine And.intro (Emb.Pur _ _) ?_ | refine And.intro rfl ?_ | refine And.intro (Pur.mk rfl) ?_ | refine And.intro (Pur.mk (by assumption)) ?_)); ((try cbv) <;> (repeat ((with_reducible refine EW.of ?_); cbv))))
  | some p =>
    replace h26 : TPure P _ _ (.tup [.sl 1 (E.int.l (p.map Int.ofNat)), .bool true]) := h26
    cases p with
    | nil =>
      rw [List.map_nil, E.int.nil] at h26
      rw [show (putO id (.node i k s ks) x (some [])).1 = x from rfl, eX]
      refine TPure.ofE A T0 (T0_ok hP) (hP ▸ Try.func32) rfl _ rfl (by simp) ?_
      cbv
      ((try cbv) <;> (repeat ((with_reducible refine EW.of ?_); cbv)))
      (refine ⟨Ent.of (hP ▸ Try.func26) rfl, ?_⟩; refine TC.pureE h26 ?_; cbv; (repeat (first | exact trivial | refine And.intro (Emb.Pur _ _) ?_ | refine And.intro rfl ?_ | refine And.intro (Pur.mk rfl) ?_ | refine And.intro (Pur.mk (by assumption)) ?_)); ((try cbv) <;> (repeat ((with_reducible refine EW.of ?_); cbv))))
      ((try cbv) <;> (repeat ((with_reducible refine EW.of ?_); cbv)))
      (refine ⟨Ent.of (hP ▸ Try.func63) rfl, ?_⟩; refine TC.pureE hct ?_; cbv; (repeat (first | exact trivial | refine And.intro (Emb.Pur _ _) ?_ | refine And.intro rfl ?_ | refine And.intro (Pur.mk rfl) ?_ | refine And.intro (Pur.mk (by assumption)) ?_)); ((try cbv) <;> (repeat ((with_reducible refine EW.of ?_); cbv))))
      have p1 : Tw.Pur [.int .i64 i, .int .i64 k, .str s, .sl 4 (E.tree.l ks)] := Pur.mk (by (repeat (first | exact rfl | exact Emb.purL _ _ | assumption | apply pur_cons | apply pur_sl | apply pur_slt | apply pur_agg | apply pur_tup)))
      have p2 : Tw.Pur [.int .i64 ix, .int .i64 kx, .str sx, .sl 4 (E.tree.l kxs)] := Pur.mk (by (repeat (first | exact rfl | exact Emb.purL _ _ | assumption | apply pur_cons | apply pur_sl | apply pur_slt | apply pur_agg | apply pur_tup)))
      obtain ⟨S, hS⟩ : ∃ S : LI Unit, S = ⟨fun _ => [(27, .int .i64 0), (26, .int .i64 (A.len [])), (25, .sl 1 []), (11, .ref 2 4 0 0), (10, .ref 2 4 0 0), (7, .int .i64 0), (6, .ref 1 4 0 0), (5, .ref 0 4 0 0)], fun _ => [some (.box 4 (.agg [.int .i64 ix, .int .i64 kx, .str sx, .sl 4 (E.tree.l kxs)])), some (.box 4 (.agg [.int .i64 0, .int .i64 0, .str ⟨#[]⟩, .nils])), some (.box 4 (.agg [.int .i64 i, .int .i64 k, .str s, .sl 4 (E.tree.l ks)]))], fun _ => True, fun _ => 0⟩ := ⟨_, rfl⟩
      refine TW.loopM A (T0_ok hP) S _ rfl () ?_ ?_ ?_
      · rw [hS]; exact trivial
      · rw [hS]
        cbv
        (repeat (first | exact trivial | refine And.intro (Emb.Pur _ _) ?_ | refine And.intro rfl ?_ | refine And.intro p1 ?_ | refine And.intro p2 ?_ | refine And.intro (Pur.mk rfl) ?_))
      rintro ⟨⟩ hj l1 L1 e1 e2
      rw [hS] at hj e1 e2
      dsimp only at hj e1 e2
      subst e1 e2
      cbv
      ((try cbv) <;> (repeat ((with_reducible refine EW.of ?_); cbv)))
      refine bno (show A.lt 0 (A.len []) = false by rw [A.ok_len]; exact ltF (Int.le_refl 0)) ?_
      ((try cbv) <;> (repeat ((with_reducible refine EW.of ?_); cbv)))
      (refine ⟨Ent.of (hP ▸ Try.func63) rfl, ?_⟩; refine TC.pureE hcx ?_; cbv; (repeat (first | exact trivial | refine And.intro (Emb.Pur _ _) ?_ | refine And.intro rfl ?_ | refine And.intro (Pur.mk rfl) ?_ | refine And.intro (Pur.mk (by assumption)) ?_)); ((try cbv) <;> (repeat ((with_reducible refine EW.of ?_); cbv))))
      exact ⟨Emb.Pur _ _, trivial⟩
    | cons i0 p =>
      have hokp : okP ks (i0 :: p) := (hok _ rfl).resolve_left (by simp)
      have hsp := hsp (i0 :: p) n i k s ks hw hokp
      rw [E.node] at hsp
      have ppk : purL [.agg [.int .i64 i, .int .i64 k, .str s, .sl 4 (E.tree.l ks)]] = true := by (repeat (first | exact rfl | exact Emb.purL _ _ | assumption | apply pur_cons | apply pur_sl | apply pur_slt | apply pur_agg | apply pur_tup))
      rw [show E.tree.v (putO id (.node i k s ks) x (some (i0 :: p))).1 = .agg [.int .i64 i, .int .i64 k, .str s, .sl 4 (E.tree.l (putAt x ks (i0 :: p)))] from E.node ..]
      have hpal := putAt_len x (i0 :: p) ks
      obtain ⟨pa, hpa⟩ : ∃ l, l = putAt x ks (i0 :: p) := ⟨_, rfl⟩
      rw [← hpa] at hpal ⊢
      obtain ⟨pi, hpi⟩ : ∃ l, l = (i0 :: p).map Int.ofNat := ⟨_, rfl⟩
      rw [← hpi] at h26
      obtain ⟨pp, hpp⟩ : ∃ l, l = i0 :: p := ⟨_, rfl⟩
      rw [← hpp] at hsp hokp hpa hpi
      refine TPure.ofE A T0 (T0_ok hP) (hP ▸ Try.func32) rfl _ rfl (by simp) ?_
      obtain ⟨QQ, hQQ⟩ : ∃ Q, Q = ebodyP T0 (Try.f32).results.toList (.tup [.agg [.int .i64 i, .int .i64 k, .str s, .sl 4 (E.tree.l pa)], .int .i64 (putO id (.node i k s ks) x (some (i0 :: p))).2]) := ⟨_, rfl⟩
      cbv
      ((try cbv) <;> (repeat ((with_reducible refine EW.of ?_); cbv)))
      (refine ⟨Ent.of (hP ▸ Try.func26) rfl, ?_⟩; refine TC.pureE h26 ?_; cbv; (repeat (first | exact trivial | refine And.intro (Emb.Pur _ _) ?_ | refine And.intro rfl ?_ | refine And.intro (Pur.mk rfl) ?_ | refine And.intro (Pur.mk (by assumption)) ?_)); ((try cbv) <;> (repeat ((with_reducible refine EW.of ?_); cbv))))
      ((try cbv) <;> (repeat ((with_reducible refine EW.of ?_); cbv)))
      refine ⟨Ent.of (hP ▸ Try.func63) rfl, TC.mono (spR.call hsp ppk _) ?_⟩
      rintro y L' ⟨M, p0, ps, rfl, hL', hS, hN, hge⟩
      have h0 : L'[0]? = some (some (.box 4 (.agg [.int .i64 i, .int .i64 k, .str s, .sl 4 (E.tree.l ks)]))) := by rw [hL']; rfl
      have h1 : L'[1]? = some (some (.box 4 (.agg [.int .i64 ix, .int .i64 kx, .str sx, .sl 4 (E.tree.l kxs)]))) := by rw [hL']; rfl
      have h2 : L'[2]? = some (some (.box 4 (.agg [.int .i64 0, .int .i64 0, .str ⟨#[]⟩, .nils]))) := by rw [hL']; rfl
      obtain ⟨nk, hnk⟩ : ∃ n, n = ks.length := ⟨_, rfl⟩
      rw [← hnk]
      obtain ⟨q, hq⟩ : ∃ q, q = L'.length := ⟨_, rfl⟩
      obtain ⟨L2, hL2⟩ : ∃ M : Store, M = L' ++ [some (.box 4 (.agg [.int .i64 0, .int .i64 0, .str ⟨⟨[]⟩⟩, .nils]))] := ⟨_, rfl⟩
      have hg2 : L2[q]? = some (some (.box 4 (.agg [.int .i64 0, .int .i64 0, .str ⟨⟨[]⟩⟩, .nils]))) := by rw [hL2, hq]; simp
      cbv
      simp only [← List.length.eq_def, ← List.append.eq_def, ← List.get?Internal.eq_def]
      rw [← hq]
      rw [show L'.append [some (.box 4 (.agg [.int .i64 0, .int .i64 0, .str ⟨⟨[]⟩⟩, .nils]))] = L2 from hL2.symm]
      rw [show L2.get?Internal q = _ from hg2]
      refine chk_iff.2 ⟨by rfl, ?_⟩
      generalize hL3 : List.set L2 q _ = L3
      replace hL3 : L3 = L2.set q (some (.box 4 (.agg [.int .i64 i, .int .i64 k, .str s, .row p0 4 0 nk]))) := hL3.symm
      have hq2 : q < L2.length := (List.getElem?_eq_some_iff.1 hg2).1
      have hg3 : L3[q]? = some (some (.box 4 (.agg [.int .i64 i, .int .i64 k, .str s, .row p0 4 0 nk]))) := by rw [hL3, List.getElem?_set_self hq2]
      have hx3 : ∀ x, x < L'.length → L3[x]? = L'[x]? := fun x hx => by rw [hL3, List.getElem?_set_ne (by omega), hL2, List.getElem?_append_left hx]
      cbv
      with_reducible refine EW.of ?_
      cbv
      ((try cbv) <;> (repeat ((with_reducible refine EW.of ?_); cbv)))
      have hll := E.int.len pi
      have hlp : A.len (E.int.l pi) = (pi.length : Int) := by rw [A.ok_len, hll]
      have hpil : pi.length = pp.length := by rw [hpi, List.length_map]
      obtain ⟨J, hJ⟩ : ∃ J : Nat → AFr → Store → Prop, J = fun c fr L => L = L3 ∧ ∃ (j : Nat) (spot : AV), c = pp.length - j ∧ j ≤ pp.length ∧ fr = ⟨43, [(27, .int .i64 j), (26, .int .i64 (A.len (E.int.l pi))), (25, .sl 1 (E.int.l pi)), (11, spot), (10, .ref q 4 0 0), (7, .int .i64 0), (6, .ref 2 4 0 0), (5, .ref 1 4 0 0)]⟩ ∧ PutAt E L3 pp (endP (p0 :: ps)) j spot := ⟨_, rfl⟩
      refine TW.loopE A (T0_ok hP) J (n0 := pp.length) (fr0 := ⟨43, [(27, .int .i64 0), (26, .int .i64 (A.len (E.int.l pi))), (25, .sl 1 (E.int.l pi)), (11, .ref q 4 0 0), (10, .ref q 4 0 0), (7, .int .i64 0), (6, .ref 2 4 0 0), (5, .ref 1 4 0 0)]⟩) (L0 := L3)
        (VS.pick rfl (.cons (Sub.refl _) (.cons (Sub.refl _) (.cons (Sub.refl _) (.cons (Sub.refl _) (.cons (Sub.refl _) (.cons (Sub.refl _) (.cons (Sub.refl _) (.cons (Sub.refl _) .nil)))))))))
        (by rw [hJ]; exact ⟨rfl, 0, _, rfl, Nat.zero_le _, rfl, .inl ⟨by rw [hpp]; simp, q, 0, i, k, s, ks, p0, ps, rfl, .inl ⟨by rw [← hnk]; exact hg3, rfl⟩, Sp.same (fun z hz => hx3 z (Sp.lt hS z hz)) hS, rfl, rfl⟩⟩) ?_
      intro c fr L hj
      rw [hJ] at hj
      obtain ⟨rfl, j, spot, hc, hj, rfl, hat⟩ := hj
      cbv
      ((try cbv) <;> (repeat ((with_reducible refine EW.of ?_); cbv)))
      refine bsplit (fun h => ?_) (fun h => ?_)
      · have h : j < pp.length := by rw [← hpil]; exact lt_nt h rfl hlp
        rcases hat with ⟨_, a, b, ki, kk, s2, kks, p', ps', rfl, hnode, hsp2, he1, he2⟩ | ⟨hj2, _⟩
        · obtain ⟨ix0, hix⟩ : ∃ x, pp[j]? = some x := ⟨_, List.getElem?_eq_getElem h⟩
          have hpx : pi[j]? = some (Int.ofNat ix0) := by rw [hpi, List.getElem?_map, hix]; rfl
          have hgp := E.geti hpx
          ((try cbv) <;> (repeat ((with_reducible refine EW.of ?_); cbv)))
          refine ⟨j, _, rfl, hgp, ?_⟩
          cbv
          have hp'2 : ∃ els, L[p']? = some (some (.arr 4 els)) ∧ els.length = kks.length ∧ ix0 < kks.length := by
            rw [List.drop_eq_getElem?_toList_append, hix] at hsp2
            cases ps' with
            | nil =>
              cases hr : pp.drop (j + 1) with
              | nil => rw [hr] at hsp2; exact ⟨_, hsp2.1, E.tree.len _, hsp2.2⟩
              | cons i2 r => rw [hr] at hsp2; exact hsp2.elim
            | cons q2 ps2 =>
              cases hr : pp.drop (j + 1) with
              | nil => rw [hr] at hsp2; exact hsp2.elim
              | cons i2 r =>
                rw [hr] at hsp2
                obtain ⟨_, _, _, _, ha, hb, _⟩ := hsp2
                exact ⟨_, hb, by rw [List.length_set, E.tree.len], (List.getElem?_eq_some_iff.1 ha).1⟩
          obtain ⟨els, hels, hell, hix2⟩ := hp'2
          obtain ⟨nn, hnn⟩ : ∃ n, n = kks.length := ⟨_, rfl⟩
          rw [← hnn] at hnode
          have hnx := PutAt.next hix hsp2 he1 he2
          have hj1 : A.op .add .i64 (j : Int) 1 = ((j + 1 : Nat) : Int) := inc_eq A (by have := okP_len hw hokp; omega)
          with_reducible refine EW.of ?_
          cbv
          simp only [← List.get?Internal.eq_def]
          rcases hnode with ⟨hb1, rfl⟩ | ⟨els1, hb1, hb2⟩
          · rw [show L.get?Internal a = _ from hb1]
            cbv
            refine ⟨ix0, rfl, by omega, ?_⟩
            rw [Nat.zero_add]
            cbv
            ((try cbv) <;> (repeat ((with_reducible refine EW.of ?_); cbv)))
            refine ⟨⟨pp.length - (j + 1), ⟨43, [(27, .int .i64 ((j + 1 : Nat) : Int)), (26, .int .i64 (A.len (E.int.l pi))), (25, .sl 1 (E.int.l pi)), (11, .ref p' 4 ix0 0), (10, .ref q 4 0 0), (7, .int .i64 0), (6, .ref 2 4 0 0), (5, .ref 1 4 0 0)]⟩, L, by omega, VS.pick rfl (.cons ?_ (.cons (Sub.refl _) (.cons (Sub.refl _) (.cons (Sub.refl _) (.cons (Sub.refl _) (.cons (Sub.refl _) (.cons (Sub.refl _) (.cons (Sub.refl _) .nil)))))))), ?_⟩⟩
            · show Tw.Sub (.int .i64 (A.op .add .i64 (j : Int) 1)) _
              rw [hj1]
              exact Sub.refl _
            · rw [hJ]
              exact ⟨rfl, j + 1, _, rfl, by omega, rfl, hnx⟩
          · rw [show L.get?Internal a = _ from hb1]
            cbv
            refine ⟨_, hb2, ?_⟩
            cbv
            refine ⟨ix0, rfl, by omega, ?_⟩
            rw [Nat.zero_add]
            cbv
            ((try cbv) <;> (repeat ((with_reducible refine EW.of ?_); cbv)))
            refine ⟨⟨pp.length - (j + 1), ⟨43, [(27, .int .i64 ((j + 1 : Nat) : Int)), (26, .int .i64 (A.len (E.int.l pi))), (25, .sl 1 (E.int.l pi)), (11, .ref p' 4 ix0 0), (10, .ref q 4 0 0), (7, .int .i64 0), (6, .ref 2 4 0 0), (5, .ref 1 4 0 0)]⟩, L, by omega, VS.pick rfl (.cons ?_ (.cons (Sub.refl _) (.cons (Sub.refl _) (.cons (Sub.refl _) (.cons (Sub.refl _) (.cons (Sub.refl _) (.cons (Sub.refl _) (.cons (Sub.refl _) .nil)))))))), ?_⟩⟩
            · show Tw.Sub (.int .i64 (A.op .add .i64 (j : Int) 1)) _
              rw [hj1]
              exact Sub.refl _
            · rw [hJ]
              exact ⟨rfl, j + 1, _, rfl, by omega, rfl, hnx⟩
        · omega
      · have h : pp.length ≤ j := by rw [← hpil]; exact lt_nf h rfl hlp
        rcases hat with ⟨hj2, _⟩ | ⟨_, rfl⟩
        · omega
        have hS3 := Sp.same (fun z hz => hx3 z (Sp.lt hS z hz)) hS
        have hlast := Sp.last hS3
        have hput := Sp.put x hS3 hN
        have h1L : L[1]? = _ := (hx3 1 (by have := (List.getElem?_eq_some_iff.1 h1).1; omega)).trans h1
        have h2L : L[2]? = _ := (hx3 2 (by have := (List.getElem?_eq_some_iff.1 h2).1; omega)).trans h2
        obtain ⟨pe, hpe⟩ : ∃ z, z = endP (p0 :: ps) := ⟨_, rfl⟩
        obtain ⟨ie, hie⟩ : ∃ z, z = endI pp := ⟨_, rfl⟩
        obtain ⟨ek, hek⟩ : ∃ z, z = endK ks pp := ⟨_, rfl⟩
        rw [← hpe, ← hie, ← hek] at hput hlast
        rw [← hpe, ← hie]
        obtain ⟨hl1, hl2⟩ := hlast
        obtain ⟨ye, hye⟩ : ∃ z, ek[ie]? = some z := ⟨_, List.getElem?_eq_getElem hl2⟩
        obtain ⟨yi, yk, ys, yks⟩ := ye
        have hgy := E.getn hye
        cbv
        ((try cbv) <;> (repeat ((with_reducible refine EW.of ?_); cbv)))
        simp only [← List.get?Internal.eq_def]
        rw [show L.get?Internal 1 = _ from h1L]
        cbv
        (refine ⟨Ent.of (hP ▸ Try.func63) rfl, ?_⟩; refine TC.pureE hcx ?_; cbv; (repeat (first | exact trivial | refine And.intro (Emb.Pur _ _) ?_ | refine And.intro rfl ?_ | refine And.intro (Pur.mk rfl) ?_ | refine And.intro (Pur.mk (by assumption)) ?_)); ((try cbv) <;> (repeat ((with_reducible refine EW.of ?_); cbv))))
        simp only [← List.get?Internal.eq_def]
        rw [show L.get?Internal pe = _ from hl1]
        refine chk_iff.2 ⟨by rfl, ?_⟩
        refine ⟨_, E.tree.l (ek.set ie x), hgy, by rw [← E.setT, eX]; rfl, by rfl, ?_⟩
        obtain ⟨L8, hL8⟩ : ∃ M : Store, M = L.set pe (some (.arr 4 (E.tree.l (ek.set ie x)))) := ⟨_, rfl⟩
        rw [← hL8] at hput
        have hne8 : ∀ (z : Nat) (v : AV), L[z]? = some (some (.box 4 v)) → L8[z]? = L[z]? := fun z v hz => by rw [hL8, List.getElem?_set_ne (fun e : pe = z => by rw [← e, hl1] at hz; cases hz)]
        have hq8 := (hne8 _ _ hg3).trans hg3
        have h28 := (hne8 _ _ h2L).trans h2L
        rw [← hL8]
        cbv
        with_reducible refine EW.of ?_
        cbv
        simp only [← List.get?Internal.eq_def]
        rw [show L8.get?Internal q = _ from hq8]
        cbv
        simp only [← List.get?Internal.eq_def]
        rw [show L8.get?Internal 2 = _ from h28]
        refine chk_iff.2 ⟨by rfl, ?_⟩
        generalize hL9 : List.set L8 2 _ = L9
        replace hL9 : L9 = L8.set 2 (some (.box 4 (.agg [.int .i64 i, .int .i64 k, .str s, .row p0 4 0 nk]))) := hL9.symm
        have h2l := (List.getElem?_eq_some_iff.1 h28).1
        have h29 : L9[2]? = some (some (.box 4 (.agg [.int .i64 i, .int .i64 k, .str s, .row p0 4 0 nk]))) := by rw [hL9, List.getElem?_set_self h2l]
        have hput9 := Sp.same (L' := L9) (fun z hz => by
          obtain ⟨e, he⟩ := Sp.arr hput z hz
          rw [hL9, List.getElem?_set_ne (fun e2 : 2 = z => by rw [← e2, h28] at he; cases he)]) hput
        obtain ⟨L10, hv10, _, hp10, hx10⟩ := Sp.shut hput9 hN
        have h210 := (hx10 2 (fun hm => by
          obtain ⟨e, he⟩ := Sp.arr hput9 2 hm
          rw [h29] at he
          cases he)).trans h29
        cbv
        refine EW.vsA (hv10 _ _) ?_
        with_reducible refine EW.of ?_
        cbv
        simp only [← List.get?Internal.eq_def]
        rw [show L10.get?Internal 2 = _ from h210]
        cbv
        simp only [← List.get?Internal.eq_def]
        rw [show L10.get?Internal p0 = _ from hp10]
        refine chk_iff.2 ⟨by rfl, ?_⟩
        rw [← hpa]
        exact ⟨E.tree.cut (by rw [hnk, hpal]), Emb.Pur _ _, trivial⟩
end Go.Proofs.Ytpjibokaeefhiaa
