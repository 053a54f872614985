import Derived.Test.YtaieiigfheabfaaYa
import Derived.Test.YtaieiigfheabfaaNa
/-! tree.Copy leaves a tree of ours. -/
namespace Go.Proofs.Ytaieiigfheabfaa
open Go.Proofs.Ytaieiigfheabfaa.Tw
def RwD (ks : List Tree) (L : Store) (j : Nat) (v : AV) : Prop := (j = 0 ∧ v = .nils) ∨ ∃ (p : Nat) (ds : List DT), v = .row p 4 0 j ∧ 2 ≤ p ∧ L[p]? = some (some (.arr 4 (ds.map DT.cell))) ∧ oksD L ds ∧ treesD ds = ks.take j ∧ (p :: footD ds).Nodup ∧ ∀ x ∈ footD ds, 2 ≤ x
theorem kid_scal (n : Nat) (o : Option Nat) : (kidAV n o).scalar = true := by cases o <;> rfl
theorem DT.cell_node {d : DT} {i k : Int} {s : ByteArray} {ks : List Tree} (h : d.tree = .node i k s ks) : ∃ o dks, d = .node i k s o dks ∧ treesD dks = ks := by
  obtain ⟨a, b, c, o, dks⟩ := d
  rw [DT.tree] at h
  injection h with h1 h2 h3 h4
  subst h1 h2 h3
  exact ⟨o, dks, rfl, h4⟩
theorem RwD.step {ks : List Tree} {L L4 L5 : Store} {pr p4 j jc : Nat} {ds : List DT} {d : DT} {t : Tree} (hds : oksD L ds) (htr : treesD ds = ks.take j) (hnd : (footD ds).Nodup) (hpr : pr ∉ footD ds) (h2 : ∀ x ∈ footD ds, 2 ≤ x) (ht : ks[j]? = some t) (hd : d.ok L4) (hdt : d.tree = t) (hdn : d.foot.Nodup) (hge : ∀ x ∈ d.foot, L.length ≤ x) (h2L : 2 ≤ L.length)
    (hp4 : p4 = L4.length) (hle : L.length ≤ L4.length) (h5 : ∀ x, x < L.length → x ≠ pr → L5[x]? = L[x]?) (h6 : ∀ x, L.length ≤ x → x < L4.length → L5[x]? = L4[x]?) (hp5 : L5[p4]? = some (some (.arr 4 (ds.map DT.cell ++ [d.cell])))) (hjc : jc = j + 1) : RwD ks L5 jc (.row p4 4 0 jc) := by
  have hf1 := oksD.lt hds
  have hf2 := DT.ok.lt hd
  subst hjc
  refine .inr ⟨p4, ds ++ [d], rfl, by omega, by rw [hp5, List.map_append]; rfl, oksD_app.2 ⟨oksD.same (fun x hx => h5 x (hf1 x hx) fun e => hpr (e ▸ hx)) hds, DT.ok.same (fun x hx => h6 x (hge x hx) (hf2 x hx)) hd, trivial⟩, by rw [treesD_app, htr, List.take_add_one, ht, treesD, hdt]; rfl, ?_, fun x hx => ?_⟩
  · rw [footD_app]
    simp only [footD, List.append_nil]
    refine List.nodup_cons.2 ⟨fun h => ?_, List.nodup_append.2 ⟨hnd, hdn, fun a ha b hb e => ?_⟩⟩
    · rcases List.mem_append.1 h with h | h
      · have := hf1 _ h; omega
      · have := hf2 _ h; omega
    · have := hf1 a ha
      have := hge b hb
      omega
  · rw [footD_app] at hx
    simp only [footD, List.append_nil] at hx
    rcases List.mem_append.1 hx with hx | hx
    · exact h2 x hx
    · have := hge x hx; omega
set_option maxHeartbeats 2000000 in
theorem copyD (A : Ar) (E : Em) {P : Program} (hP : P = Try.prog) : ∀ (n : Nat) (t : Tree), within n t → TC P 63 [E.tree.v t] [] (dR t []) := by
  intro n
  induction n with
  | zero => exact fun _ h => h.elim
  | succ m ih =>
  intro t hw
  obtain ⟨i, k, s, ks⟩ := t
  have hll := E.tree.len ks
  have hwl := hw.len'
  rw [E.node]
  refine TC.of_ewp A T0 (T0_ok hP) (hP ▸ Try.func63) rfl _ rfl (by simp) ?_
  obtain ⟨R, hR⟩ : ∃ R, R = dR (.node i k s ks) [] := ⟨_, rfl⟩
  rw [← hR]
  cbv
  ((try cbv) <;> (repeat ((with_reducible refine EW.of ?_); cbv)))
  obtain ⟨T, hT⟩ : ∃ T, T = AV.agg [.int .i64 i, .int .i64 k, .str s, .sl 4 (E.tree.l ks)] := ⟨_, rfl⟩
  obtain ⟨J, hJ⟩ : ∃ J : Nat → AFr → Store → Prop, J = fun c fr L => ∃ j v, c = ks.length - j ∧ j ≤ ks.length ∧ fr = ⟨22, [(9, .int .i64 j), (8, .int .i64 (A.len (E.tree.l ks))), (7, .sl 4 (E.tree.l ks)), (3, v), (2, .ref 1 4 0 0), (1, .ref 0 4 0 0)]⟩ ∧ L[0]? = some (some (.box 4 T)) ∧ L[1]? = some (some (.box 4 (.agg [.int .i64 0, .int .i64 0, .str ⟨⟨[]⟩⟩, .nils]))) ∧ RwD ks L j v := ⟨_, rfl⟩
  refine TW.loopE A (T0_ok hP) J (n0 := ks.length) (fr0 := ⟨22, [(9, .int .i64 0), (8, .int .i64 (A.len (E.tree.l ks))), (7, .sl 4 (E.tree.l ks)), (3, .nils), (2, .ref 1 4 0 0), (1, .ref 0 4 0 0)]⟩)
    (VS.pick rfl (.cons (Sub.refl _) (.cons (Sub.refl _) (.cons (Sub.refl _) (.cons (Sub.refl _) (.cons (Sub.refl _) (.cons (Sub.refl _) .nil)))))))
    (by rw [hJ]; exact ⟨0, .nils, rfl, Nat.zero_le _, rfl, by rw [hT]; rfl, rfl, .inl ⟨rfl, rfl⟩⟩) ?_
  intro c fr L hj
  rw [hJ] at hj
  obtain ⟨j, v, hc, hj, rfl, h0, h1, hv⟩ := hj
  cbv
  ((try cbv) <;> (repeat ((with_reducible refine EW.of ?_); cbv)))
  refine bsplit (fun h => ?_) (fun h => ?_)
  · have h : j < (E.tree.l ks).length := lt_nt h rfl (A.ok_len _)
    obtain ⟨t', ht'⟩ : ∃ t', ks[j]? = some t' := ⟨_, List.getElem?_eq_getElem (by omega)⟩
    have hwt := hw.2 t' (List.mem_of_getElem? ht')
    obtain ⟨i', k', s', ks'⟩ := t'
    ((try cbv) <;> (repeat ((with_reducible refine EW.of ?_); cbv)))
    refine ⟨j, _, rfl, E.getn ht', ?_⟩
    cbv
    obtain ⟨q, hq⟩ : ∃ q, q = L.length := ⟨_, rfl⟩
    obtain ⟨L2, hL2⟩ : ∃ M : Store, M = L ++ [some (.box 4 (.agg [.int .i64 0, .int .i64 0, .str ⟨⟨[]⟩⟩, .nils]))] := ⟨_, rfl⟩
    have hg2 : L2[q]? = some (some (.box 4 (.agg [.int .i64 0, .int .i64 0, .str ⟨⟨[]⟩⟩, .nils]))) := by rw [hL2, hq]; simp
    simp only [← List.length.eq_def, ← List.append.eq_def, ← List.get?Internal.eq_def]
    rw [← hq]
    rw [show L.append [some (.box 4 (.agg [.int .i64 0, .int .i64 0, .str ⟨⟨[]⟩⟩, .nils]))] = L2 from hL2.symm]
    rw [show L2.get?Internal q = _ from hg2]
    refine chk_iff.2 ⟨by rfl, ?_⟩
    have hgn := E.node i' k' s' ks'
    generalize hL3 : List.set L2 q _ = L3
    replace hL3 : L3 = L2.set q (some (.box 4 (.agg [.int .i64 i', .int .i64 k', .str s', .sl 4 (E.tree.l ks')]))) := hL3.symm
    have hq2 : q < L2.length := (List.getElem?_eq_some_iff.1 hg2).1
    have hg3 : L3[q]? = some (some (.box 4 (.agg [.int .i64 i', .int .i64 k', .str s', .sl 4 (E.tree.l ks')]))) := by rw [hL3, List.getElem?_set_self hq2]
    have hx3 : ∀ x, x < L.length → L3[x]? = L[x]? := fun x hx => by rw [hL3, List.getElem?_set_ne (by omega), hL2, List.getElem?_append_left hx]
    cbv
    with_reducible refine EW.of ?_
    cbv
    simp only [← List.get?Internal.eq_def]
    rw [show L3.get?Internal q = _ from hg3]
    cbv
    have hcp := ih _ hwt
    rw [hgn] at hcp
    have ppk : purL [.agg [.int .i64 i', .int .i64 k', .str s', .sl 4 (E.tree.l ks')]] = true := by (repeat (first | exact rfl | exact Emb.purL _ _ | assumption | apply pur_cons | apply pur_sl | apply pur_slt | apply pur_agg | apply pur_tup))
    refine ⟨Ent.of (hP ▸ Try.func63) rfl, TC.mono (dR.call hcp ppk L3) ?_⟩
    rintro x L4 ⟨M, d, rfl, hL4, hdt, hd, hdn, hge⟩
    obtain ⟨o, dks, hdd, hdk⟩ := DT.cell_node hdt
    obtain ⟨kid, hkid⟩ : ∃ kid, kid = kidAV dks.length o := ⟨_, rfl⟩
    have hsc : kid.scalar = true := by rw [hkid]; exact kid_scal _ _
    have hcell : d.cell = .agg [.int .i64 i', .int .i64 k', .str s', kid] := by rw [hdd, DT.cell, hkid]
    have hx4 : ∀ x, x < L3.length → L4[x]? = L3[x]? := fun x hx => by rw [hL4, List.getElem?_append_left hx]
    obtain ⟨p4, hp4⟩ : ∃ p, p = L4.length := ⟨_, rfl⟩
    obtain ⟨jc, hjc⟩ : ∃ x, x = j + 1 := ⟨_, rfl⟩
    have hj1 : A.op .add .i64 (j : Int) 1 = (jc : Int) := by rw [hjc]; exact inc_eq A (by omega)
    have hl2 : L2.length = L.length + 1 := by rw [hL2]; simp
    have hl3 : L3.length = L.length + 1 := by rw [hL3, List.length_set, hl2]
    have hl4 : L.length + 1 ≤ L4.length := by rw [hL4, List.length_append, hl3]; omega
    have h0l := (List.getElem?_eq_some_iff.1 h0).1
    have h1l := (List.getElem?_eq_some_iff.1 h1).1
    have hx43 : ∀ x, x < L.length → L4[x]? = L[x]? := fun x hx => (hx4 x (by omega)).trans (hx3 x hx)
    have hge' : ∀ x ∈ d.foot, L.length ≤ x := fun x hx => by have := hge x hx; omega
    have hscl : escal [.agg [.int .i64 i', .int .i64 k', .str s', kid]] = true := by rw [hkid]; cases o <;> rfl
    rw [hcell]
    rcases hv with ⟨hj0, rfl⟩ | ⟨pr, ds, rfl, hpr2, hpr, hds, htr, hnd, h2f⟩
    · cbv
      ((try cbv) <;> (repeat ((with_reducible refine EW.of ?_); cbv)))
      refine ⟨⟨hscl⟩, jc, [.agg [.int .i64 i', .int .i64 k', .str s', kid]], by rw [hjc, hj0]; rfl, rfl, Nat.zero_le _, by omega, by omega, ?_⟩
      rw [← hp4]
      generalize hL5 : L4 ++ [some (.arr _ _)] = L5
      replace hL5 : L5 = L4 ++ [some (.arr 4 [.agg [.int .i64 i', .int .i64 k', .str s', kid]])] := hL5.symm
      have h54 : ∀ x, x < L4.length → L5[x]? = L4[x]? := fun x hx => by rw [hL5, List.getElem?_append_left hx]
      have hp5 : L5[p4]? = some (some (.arr 4 [.agg [.int .i64 i', .int .i64 k', .str s', kid]])) := by rw [hL5, hp4]; simp
      have g0 : L5[0]? = _ := (h54 0 (by omega)).trans ((hx43 0 h0l).trans h0)
      have g1 : L5[1]? = _ := (h54 1 (by omega)).trans ((hx43 1 h1l).trans h1)
      have hE5 : RwD ks L5 jc (.row p4 4 0 jc) := RwD.step (L := L) (pr := L.length) (ds := []) (j := j) trivial (by rw [hj0]; rfl) List.nodup_nil (by simp [footD]) (by simp [footD]) ht' hd hdt hdn hge' (by omega) hp4 (by omega) (fun x hx _ => (h54 x (by omega)).trans (hx43 x hx)) (fun x _ hx => h54 x hx) (by rw [hp5, hcell]; rfl) hjc
      cbv
      ((try cbv) <;> (repeat ((with_reducible refine EW.of ?_); cbv)))
      refine ⟨⟨ks.length - jc, ⟨22, [(9, .int .i64 (jc : Int)), (8, .int .i64 (A.len (E.tree.l ks))), (7, .sl 4 (E.tree.l ks)), (3, .row p4 4 0 jc), (2, .ref 1 4 0 0), (1, .ref 0 4 0 0)]⟩, L5, by omega, VS.pick rfl (.cons ?_ (.cons (Sub.refl _) (.cons (Sub.refl _) (.cons (Sub.refl _) (.cons (Sub.refl _) (.cons (Sub.refl _) .nil)))))), ?_⟩⟩
      · show Tw.Sub (.int .i64 (A.op .add .i64 (j : Int) 1)) _
        rw [hj1]
        exact Sub.refl _
      · rw [hJ]
        exact ⟨jc, _, rfl, by omega, rfl, g0, g1, hE5⟩
    · have hprl := (List.getElem?_eq_some_iff.1 hpr).1
      have hpr4 := (hx43 pr hprl).trans hpr
      obtain ⟨els, hels⟩ : ∃ els, els = ds.map DT.cell := ⟨_, rfl⟩
      have hell : els.length = j := by
        have := congrArg List.length htr
        rw [treesD_len, List.length_take] at this
        rw [hels, List.length_map]
        omega
      rw [← hels] at hpr4
      cbv
      ((try cbv) <;> (repeat ((with_reducible refine EW.of ?_); cbv)))
      simp only [← List.get?Internal.eq_def]
      rw [show L4.get?Internal pr = _ from hpr4]
      refine chk_iff.2 ⟨by rfl, ?_⟩
      refine ⟨⟨hscl⟩, jc, els ++ [.agg [.int .i64 i', .int .i64 k', .str s', kid]], by rw [hjc]; rfl, by rw [List.take_of_length_le (by omega)], by omega, by show jc * 56 ≤ _; omega, by omega, ?_⟩
      rw [← hp4]
      dsimp only
      generalize hL5 : L4.set pr none ++ [some (.arr _ _)] = L5
      replace hL5 : L5 = L4.set pr none ++ [some (.arr 4 (els ++ [.agg [.int .i64 i', .int .i64 k', .str s', kid]]))] := hL5.symm
      have h54 : ∀ x, x < L4.length → x ≠ pr → L5[x]? = L4[x]? := fun x hx hne => by rw [hL5, List.getElem?_append_left (by simpa using hx), List.getElem?_set_ne (Ne.symm hne)]
      have hp5 : L5[p4]? = some (some (.arr 4 (els ++ [.agg [.int .i64 i', .int .i64 k', .str s', kid]]))) := by rw [hL5, hp4]; simp
      have g0 : L5[0]? = _ := (h54 0 (by omega) (by omega)).trans ((hx43 0 h0l).trans h0)
      have g1 : L5[1]? = _ := (h54 1 (by omega) (by omega)).trans ((hx43 1 h1l).trans h1)
      have hnd' := List.nodup_cons.1 hnd
      have hE5 : RwD ks L5 jc (.row p4 4 0 jc) := RwD.step hds htr hnd'.2 hnd'.1 h2f ht' hd hdt hdn hge' (by omega) hp4 (by omega) (fun x hx hne => (h54 x (by omega) hne).trans (hx43 x hx)) (fun x hge hx => h54 x hx (by omega)) (by rw [hp5, hcell, hels]) hjc
      cbv
      ((try cbv) <;> (repeat ((with_reducible refine EW.of ?_); cbv)))
      refine ⟨⟨ks.length - jc, ⟨22, [(9, .int .i64 (jc : Int)), (8, .int .i64 (A.len (E.tree.l ks))), (7, .sl 4 (E.tree.l ks)), (3, .row p4 4 0 jc), (2, .ref 1 4 0 0), (1, .ref 0 4 0 0)]⟩, L5, by omega, VS.pick rfl (.cons ?_ (.cons (Sub.refl _) (.cons (Sub.refl _) (.cons (Sub.refl _) (.cons (Sub.refl _) (.cons (Sub.refl _) .nil)))))), ?_⟩⟩
      · show Tw.Sub (.int .i64 (A.op .add .i64 (j : Int) 1)) _
        rw [hj1]
        exact Sub.refl _
      · rw [hJ]
        exact ⟨jc, _, rfl, by omega, rfl, g0, g1, hE5⟩
  · have h : (E.tree.l ks).length ≤ j := lt_nf h rfl (A.ok_len _)
    have hjl : j = ks.length := by omega
    have hks : ks.take j = ks := List.take_of_length_le (by omega)
    have h0l := (List.getElem?_eq_some_iff.1 h0).1
    have h1l := (List.getElem?_eq_some_iff.1 h1).1
    rw [hT] at h0
    rcases hv with ⟨hj0, rfl⟩ | ⟨pr, ds, rfl, hpr2, hpr, hds, htr, hnd, h2f⟩
    · skip
      ((try cbv) <;> (repeat ((with_reducible refine EW.of ?_); cbv)))
      simp only [← List.get?Internal.eq_def]
      rw [show L.get?Internal 0 = _ from h0]
      refine chk_iff.2 ⟨by rfl, ?_⟩
      generalize hL6 : List.set L 0 _ = L6
      replace hL6 : L6 = L.set 0 (some (.box 4 (.agg [.int .i64 i, .int .i64 k, .str s, .nils]))) := hL6.symm
      have g0 : L6[0]? = some (some (.box 4 (.agg [.int .i64 i, .int .i64 k, .str s, .nils]))) := by rw [hL6, List.getElem?_set_self h0l]
      have g6 : ∀ x, x ≠ 0 → L6[x]? = L[x]? := fun x hx => by rw [hL6, List.getElem?_set_ne (Ne.symm hx)]
      have g1 := (g6 1 (by decide)).trans h1
      cbv
      with_reducible refine EW.of ?_
      cbv
      simp only [← List.get?Internal.eq_def]
      rw [show L6.get?Internal 0 = _ from g0]
      cbv
      simp only [← List.get?Internal.eq_def]
      rw [show L6.get?Internal 1 = _ from g1]
      refine chk_iff.2 ⟨by rfl, ?_⟩
      generalize hL7 : List.set L6 1 _ = L7
      replace hL7 : L7 = L6.set 1 (some (.box 4 (.agg [.int .i64 i, .int .i64 k, .str s, .nils]))) := hL7.symm
      have h6l : 1 < L6.length := by rw [hL6, List.length_set]; exact h1l
      have g17 : L7[1]? = some (some (.box 4 (.agg [.int .i64 i, .int .i64 k, .str s, .nils]))) := by rw [hL7, List.getElem?_set_self h6l]
      have g7 : ∀ x, x ≠ 0 → x ≠ 1 → L7[x]? = L[x]? := fun x hx hx1 => by rw [hL7, List.getElem?_set_ne (Ne.symm hx1), g6 x hx]
      cbv
      with_reducible refine EW.of ?_
      cbv
      simp only [← List.get?Internal.eq_def]
      rw [show L7.get?Internal 1 = _ from g17]
      refine chk_iff.2 ⟨by rfl, ?_⟩
      have hks0 : ks = [] := List.length_eq_zero_iff.1 (by omega)
      have hres : dR (.node i k s ks) [] (.ret (.agg [.int .i64 i, .int .i64 k, .str s, .sl 4 []])) L7 := ⟨L7, .node i k s none [], rfl, rfl, by rw [hks0]; rfl, ⟨rfl, trivial⟩, List.nodup_nil, fun _ _ => Nat.zero_le _⟩
      rw [← hR] at hres
      cbv
      exact ⟨.agg [.int .i64 i, .int .i64 k, .str s, .sl 4 []], L7, VSV.sub (Sub.agg rfl fun j c d hc hd => by
        match j, hc, hd with
        | 0, hc, hd => cases hc; cases hd; exact Sub.refl _
        | 1, hc, hd => cases hc; cases hd; exact Sub.refl _
        | 2, hc, hd => cases hc; cases hd; exact Sub.refl _
        | 3, hc, hd => cases hc; cases hd; exact Sub.nils 4
        | j + 4, hc, hd => exact absurd hd (by simp)), hres⟩
    · skip
      ((try cbv) <;> (repeat ((with_reducible refine EW.of ?_); cbv)))
      simp only [← List.get?Internal.eq_def]
      rw [show L.get?Internal 0 = _ from h0]
      refine chk_iff.2 ⟨by rfl, ?_⟩
      generalize hL6 : List.set L 0 _ = L6
      replace hL6 : L6 = L.set 0 (some (.box 4 (.agg [.int .i64 i, .int .i64 k, .str s, .row pr 4 0 j]))) := hL6.symm
      have g0 : L6[0]? = some (some (.box 4 (.agg [.int .i64 i, .int .i64 k, .str s, .row pr 4 0 j]))) := by rw [hL6, List.getElem?_set_self h0l]
      have g6 : ∀ x, x ≠ 0 → L6[x]? = L[x]? := fun x hx => by rw [hL6, List.getElem?_set_ne (Ne.symm hx)]
      have g1 := (g6 1 (by decide)).trans h1
      cbv
      with_reducible refine EW.of ?_
      cbv
      simp only [← List.get?Internal.eq_def]
      rw [show L6.get?Internal 0 = _ from g0]
      cbv
      simp only [← List.get?Internal.eq_def]
      rw [show L6.get?Internal 1 = _ from g1]
      refine chk_iff.2 ⟨by rfl, ?_⟩
      generalize hL7 : List.set L6 1 _ = L7
      replace hL7 : L7 = L6.set 1 (some (.box 4 (.agg [.int .i64 i, .int .i64 k, .str s, .row pr 4 0 j]))) := hL7.symm
      have h6l : 1 < L6.length := by rw [hL6, List.length_set]; exact h1l
      have g17 : L7[1]? = some (some (.box 4 (.agg [.int .i64 i, .int .i64 k, .str s, .row pr 4 0 j]))) := by rw [hL7, List.getElem?_set_self h6l]
      have g7 : ∀ x, x ≠ 0 → x ≠ 1 → L7[x]? = L[x]? := fun x hx hx1 => by rw [hL7, List.getElem?_set_ne (Ne.symm hx1), g6 x hx]
      cbv
      with_reducible refine EW.of ?_
      cbv
      simp only [← List.get?Internal.eq_def]
      rw [show L7.get?Internal 1 = _ from g17]
      refine chk_iff.2 ⟨by rfl, ?_⟩
      have hne : ∀ x, 2 ≤ x → L7[x]? = L[x]? := fun x hx => g7 x (by omega) (by omega)
      have hjd : j = ds.length := by
        have := congrArg List.length htr
        rw [treesD_len, List.length_take] at this
        omega
      have hres : dR (.node i k s ks) [] (.ret (.agg [.int .i64 i, .int .i64 k, .str s, .row pr 4 0 j])) L7 := ⟨L7, .node i k s (some pr) ds, by rw [hjd]; rfl, rfl, by rw [DT.tree, htr, hks], ⟨(hne pr hpr2).trans hpr, oksD.same (fun x hx => hne x (h2f x hx)) hds⟩, hnd, fun _ _ => Nat.zero_le _⟩
      rw [← hR] at hres
      cbv
      exact ⟨_, L7, VSV.refl _ _ _, hres⟩
end Go.Proofs.Ytaieiigfheabfaa
