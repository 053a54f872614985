import Derived.Test.YtaieiigfheabfaaYg
/-! normal.texted at a step's tree. -/
namespace Go.Proofs.Ytaieiigfheabfaa
open Go.Proofs.Ytaieiigfheabfaa.Tw
def stepCell (op i0 par pl : Int) (tx : ByteArray) : DT → AV
  | .node i k s o ks => .agg [.int .i8 op, .int .i64 i0, .int .i64 par, .int .i64 pl, .str tx, .int .i64 i, .int .i64 k, .str s, kidAV ks.length o]
def tRB (op i0 par pl : Int) (tx : ByteArray) (id : Int) (s : ByteArray) (d : DT) (q : Nat) (L : Store) : AEnd → Store → Prop := fun x L' => x = .ret (.bool (textD id s d).2) ∧ L'.length = L.length ∧ L'[q]? = some (some (.box 9 (stepCell op i0 par pl tx (textD id s d).1))) ∧ (textD id s d).1.ok L' ∧ ∀ x, x ∉ q :: d.foot → L'[x]? = L[x]?
set_option maxHeartbeats 2000000 in
theorem textedB (A : Ar) (E : Em) {P : Program} (hP : P = Try.prog) (op i0 par pl : Int) (tx : ByteArray) (id : Int) (s : ByteArray) (m : Nat) (d : DT) (L : Store) (q : Nat) (hw : within (m + 1) d.tree) (hd : d.ok L) (hn : (q :: d.foot).Nodup) (hq : L[q]? = some (some (.box 9 (stepCell op i0 par pl tx d)))) : TC P 43 [.ref q 9 0 5, .int .i64 id, .str s] L (tRB op i0 par pl tx id s d q L) := by
  have ih := texted43 A E hP id s m
  obtain ⟨i, k, x, o, ks⟩ := d
  obtain ⟨kid, hkid⟩ : ∃ kid, kid = kidAV ks.length o := ⟨_, rfl⟩
  replace hq : L[q]? = some (some (.box 9 (.agg [.int .i8 op, .int .i64 i0, .int .i64 par, .int .i64 pl, .str tx, .int .i64 i, .int .i64 k, .str x, kid]))) := by rw [hq, stepCell, hkid]
  refine TC.of_ewp A T0 (T0_ok hP) (hP ▸ Try.func43) rfl _ rfl (by simp) ?_
  obtain ⟨R, hR⟩ : ∃ R, R = tRB op i0 par pl tx id s (.node i k x o ks) q L := ⟨_, rfl⟩
  rw [← hR]
  cbv
  ((try cbv) <;> (repeat ((with_reducible refine EW.of ?_); cbv)))
  simp only [← List.get?Internal.eq_def]
  rw [show L.get?Internal q = _ from hq]
  cbv
  ((try cbv) <;> (repeat ((with_reducible refine EW.of ?_); cbv)))
  refine bsplit (fun h => ?_) (fun h => ?_)
  · have h : i = id := eq_t h rfl rfl
    ((try cbv) <;> (repeat ((with_reducible refine EW.of ?_); cbv)))
    simp only [← List.get?Internal.eq_def]
    rw [show L.get?Internal q = _ from hq]
    refine chk_iff.2 ⟨by rw [hkid]; cases o <;> rfl, ?_⟩
    generalize hL3 : List.set L q _ = L3
    replace hL3 : L.set q (some (.box 9 (.agg [.int .i8 op, .int .i64 i0, .int .i64 par, .int .i64 pl, .str tx, .int .i64 i, .int .i64 k, .str s, kid]))) = L3 := hL3
    have hlq := (List.getElem?_eq_some_iff.1 hq).1
    have hres : R (.ret (.bool true)) L3 := by
      rw [hR]
      have e : textD id s (.node i k x o ks) = (.node i k s o ks, true) := by rw [textD, if_pos h]
      have hne : ∀ y, y ≠ q → L3[y]? = L[y]? := fun y hy => by rw [← hL3, List.getElem?_set_ne (Ne.symm hy)]
      refine ⟨by rw [e], by rw [← hL3, List.length_set], by rw [e, stepCell, ← hkid, ← hL3, List.getElem?_set_self hlq], ?_, fun y hy => hne y fun e => hy (e ▸ List.mem_cons_self ..)⟩
      rw [e]
      exact DT.ok.same (d := .node i k s o ks) (fun y hy => hne y fun e => (List.nodup_cons.1 hn).1 (e ▸ hy)) hd
    cbv
    ((try cbv) <;> (repeat ((with_reducible refine EW.of ?_); cbv)))
    exact ⟨_, L3, VSV.refl _ _ _, hres⟩
  · have h : i ≠ id := eq_f h rfl rfl
    have eD : textD id s (.node i k x o ks) = (.node i k x o (textDs id s ks).1, (textDs id s ks).2) := by rw [textD, if_neg h]
    have hqf := (List.nodup_cons.1 hn).1
    have hnf := (List.nodup_cons.1 hn).2
    ((try cbv) <;> (repeat ((with_reducible refine EW.of ?_); cbv)))
    simp only [← List.get?Internal.eq_def]
    rw [show L.get?Internal q = _ from hq]
    have hwl := hw.1
    obtain ⟨ob, hob⟩ : ∃ ob, ob = L[q]? := ⟨_, rfl⟩
    rw [treesD_len] at hwl
    cases o with
    | none =>
      obtain rfl : ks = [] := hd.1
      subst hkid
      cbv
      ((try cbv) <;> (repeat ((with_reducible refine EW.of ?_); cbv)))
      obtain ⟨n0, hn0⟩ : ∃ n0 : Int, n0 = (([] : List DT).length : Int) := ⟨_, rfl⟩
      have hn0' : A.len [] = n0 := by rw [A.ok_len, hn0]; rfl
      obtain ⟨ks, hks⟩ : ∃ ks : List DT, ks = [] := ⟨_, rfl⟩
      rw [← hks] at hn0 hd hn eD hqf hnf hR
      obtain ⟨J, hJ⟩ : ∃ J : Nat → AFr → Store → Prop, J = fun c fr L' => ∃ j, c = ks.length - j ∧ j ≤ ks.length ∧ fr = ⟨36, [(23, .int .i64 j), (22, .int .i64 n0), (6, .bool false), (0, .ref q 9 0 5), (1, .int .i64 id), (2, .str s)]⟩ ∧ L'.length = L.length ∧ L'[q]? = ob ∧ DT.ok L' (.node i k x none ks) ∧ missD id s ks j ∧ ∀ y, y ∉ q :: (DT.node i k x none ks).foot → L'[y]? = L[y]? := ⟨_, rfl⟩
      refine TW.loopE A (T0_ok hP) J (n0 := ks.length) (fr0 := ⟨36, [(23, .int .i64 0), (22, .int .i64 n0), (6, .bool false), (0, .ref q 9 0 5), (1, .int .i64 id), (2, .str s)]⟩) (L0 := L)
        (VS.pick rfl (.cons (Sub.refl _) (.cons (Sub.int hn0') (.cons (Sub.refl _) (.cons (Sub.refl _) (.cons (Sub.refl _) (.cons (Sub.refl _) .nil)))))))
        (by rw [hJ]; exact ⟨0, rfl, Nat.zero_le _, rfl, rfl, hob.symm, hd, fun i d hi => by omega, fun _ _ => rfl⟩) ?_
      intro c fr L' hj
      rw [hJ] at hj
      obtain ⟨j, hc, hj, rfl, hl', hq', hd', hm, hs'⟩ := hj
      cbv
      ((try cbv) <;> (repeat ((with_reducible refine EW.of ?_); cbv)))
      refine bsplit (fun h2 => ?_) (fun h2 => ?_)
      · have h2 : j < ks.length := lt_nt h2 rfl hn0
        rw [hks] at h2
        exact absurd h2 (Nat.not_lt_zero _)
      · have h2 : ks.length ≤ j := lt_nf h2 rfl hn0
        ((try cbv) <;> (repeat ((with_reducible refine EW.of ?_); cbv)))
        have hmiss := textDs_miss hm h2
        have hres : R (.ret (.bool false)) L' := by
          rw [hR]
          have e : textD id s (.node i k x none ks) = (.node i k x none ks, false) := by rw [eD, hmiss]
          refine ⟨by rw [e], hl', ?_, by rw [e]; exact hd', hs'⟩
          rw [e, hq', hob, hq, stepCell]
          first | rfl | (rw [hnk]; rfl)
        exact ⟨_, L', VSV.refl _ _ _, hres⟩
    | some p =>
      subst hkid
      obtain ⟨nk, hnk⟩ : ∃ n, n = ks.length := ⟨_, rfl⟩
      replace hq : L[q]? = some (some (.box 9 (.agg [.int .i8 op, .int .i64 i0, .int .i64 par, .int .i64 pl, .str tx, .int .i64 i, .int .i64 k, .str x, .row p 4 0 nk]))) := by rw [hq, hnk]; rfl
      rw [← hnk]
      cbv
      ((try cbv) <;> (repeat ((with_reducible refine EW.of ?_); cbv)))
      obtain ⟨n0, hn0⟩ : ∃ n0 : Int, n0 = (ks.length : Int) := ⟨_, rfl⟩
      have hn0' : A.nat nk = n0 := by rw [A.ok_nat, hn0, hnk]
      obtain ⟨J, hJ⟩ : ∃ J : Nat → AFr → Store → Prop, J = fun c fr L' => ∃ j, c = ks.length - j ∧ j ≤ ks.length ∧ fr = ⟨36, [(23, .int .i64 j), (22, .int .i64 n0), (6, .bool false), (0, .ref q 9 0 5), (1, .int .i64 id), (2, .str s)]⟩ ∧ L'.length = L.length ∧ L'[q]? = ob ∧ DT.ok L' (.node i k x (some p) ks) ∧ missD id s ks j ∧ ∀ y, y ∉ q :: (DT.node i k x (some p) ks).foot → L'[y]? = L[y]? := ⟨_, rfl⟩
      refine TW.loopE A (T0_ok hP) J (n0 := ks.length) (fr0 := ⟨36, [(23, .int .i64 0), (22, .int .i64 n0), (6, .bool false), (0, .ref q 9 0 5), (1, .int .i64 id), (2, .str s)]⟩) (L0 := L)
        (VS.pick rfl (.cons (Sub.refl _) (.cons (Sub.int hn0') (.cons (Sub.refl _) (.cons (Sub.refl _) (.cons (Sub.refl _) (.cons (Sub.refl _) .nil)))))))
        (by rw [hJ]; exact ⟨0, rfl, Nat.zero_le _, rfl, rfl, hob.symm, hd, fun i d hi => by omega, fun _ _ => rfl⟩) ?_
      intro c fr L' hj
      rw [hJ] at hj
      obtain ⟨j, hc, hj, rfl, hl', hq', hd', hm, hs'⟩ := hj
      cbv
      ((try cbv) <;> (repeat ((with_reducible refine EW.of ?_); cbv)))
      refine bsplit (fun h2 => ?_) (fun h2 => ?_)
      · have h2 : j < ks.length := lt_nt h2 rfl hn0
        obtain ⟨dj, hdj⟩ : ∃ d, ks[j]? = some d := ⟨_, List.getElem?_eq_getElem h2⟩
        ((try cbv) <;> (repeat ((with_reducible refine EW.of ?_); cbv)))
        simp only [← List.get?Internal.eq_def]
        rw [show L'.get?Internal q = _ from hq'.trans (hob.trans hq)]
        cbv
        refine ⟨j, rfl, by omega, ?_⟩
        rw [Nat.zero_add]
        cbv
        have hdf := foot_sep hdj (List.nodup_cons.1 hnf).2
        have hpf : p ∉ dj.foot := fun e => (List.nodup_cons.1 hnf).1 (foot_mem (List.mem_of_getElem? hdj) e)
        have hwj : within m dj.tree := hw.2 _ (by rw [treesD_map]; exact List.mem_map.2 ⟨dj, List.mem_of_getElem? hdj, rfl⟩)
        have hsub : ∀ y, y ∈ p :: dj.foot → y ∈ (DT.node i k x (some p) ks).foot := fun y hy => by
          rcases List.mem_cons.1 hy with rfl | hy
          · exact List.mem_cons_self ..
          · exact List.mem_cons_of_mem _ (foot_mem (List.mem_of_getElem? hdj) hy)
        refine byes (bleM _ _ (Nat.le_of_eq ((List.length.eq_def L).symm.trans (hl'.symm.trans (List.length.eq_def L'))))) ?_
        refine ⟨Ent.of (hP ▸ Try.func43) rfl, TC.mono (ih dj L' p j (ks.map DT.cell) hwj (oks_mem (List.mem_of_getElem? hdj) hd'.2) (List.nodup_cons.2 ⟨hpf, hdf.2⟩) hd'.1 (by rw [List.getElem?_map, hdj]; rfl)) ?_⟩
        rintro y L2 ⟨rfl, hl2, hp2, hd2, hs2⟩
        have hq2 : L2[q]? = ob := (hs2 q fun e => hqf (hsub q e)).trans hq'
        have hs3 : ∀ y, y ∉ q :: (DT.node i k x (some p) ks).foot → L2[y]? = L[y]? := fun y hy => (hs2 y fun e => hy (List.mem_cons_of_mem _ (hsub y e))).trans (hs' y hy)
        have hok2 := oksD.set hdj (List.nodup_cons.1 hnf).2 hd'.2 hd2 (fun y hy hn => hs2 y fun e => by
          rcases List.mem_cons.1 e with rfl | e
          · exact (List.nodup_cons.1 hnf).1 hy
          · exact hn e)
        have hmap : (ks.map DT.cell).set j (textD id s dj).1.cell = (ks.set j (textD id s dj).1).map DT.cell := by rw [List.map_set]
        rw [hmap] at hp2
        obtain ⟨bb, hbb⟩ : ∃ b, b = (textD id s dj).2 := ⟨_, rfl⟩
        rw [← hbb]
        cases bb with
        | true =>
          have hhit := textDs_hit hm hdj hbb.symm
          have hres : R (.ret (.bool true)) L2 := by
            rw [hR]
            have e : textD id s (.node i k x (some p) ks) = (.node i k x (some p) (ks.set j (textD id s dj).1), true) := by rw [eD, hhit]
            refine ⟨by rw [e], hl2.trans hl', ?_, by rw [e]; exact ⟨hp2, hok2⟩, hs3⟩
            rw [e, hq2, hob, hq, stepCell, List.length_set, ← hnk]
            rfl
          cbv
          ((try cbv) <;> (repeat ((with_reducible refine EW.of ?_); cbv)))
          exact ⟨_, L2, VSV.refl _ _ _, hres⟩
        | false =>
          have hno := textD_no id s dj hbb.symm
          have hset : ks.set j dj = ks := List.ext_getElem? fun y => by
            by_cases hy : j = y
            · subst hy; rw [List.getElem?_set_self h2, hdj]
            · rw [List.getElem?_set_ne hy]
          rw [hno, hset] at hp2 hok2
          have hj1 : A.op .add .i64 (j : Int) 1 = ((j + 1 : Nat) : Int) := inc_eq A (by omega)
          cbv
          ((try cbv) <;> (repeat ((with_reducible refine EW.of ?_); cbv)))
          refine ⟨⟨ks.length - (j + 1), ⟨36, [(23, .int .i64 ((j + 1 : Nat) : Int)), (22, .int .i64 n0), (6, .bool false), (0, .ref q 9 0 5), (1, .int .i64 id), (2, .str s)]⟩, L2, by omega, VS.pick rfl (.cons ?_ (.cons (Sub.refl _) (.cons (Sub.refl _) (.cons (Sub.refl _) (.cons (Sub.refl _) (.cons (Sub.refl _) .nil)))))), ?_⟩⟩
          · show Tw.Sub (.int .i64 (A.op .add .i64 (j : Int) 1)) _
            rw [hj1]
            exact Sub.refl _
          · rw [hJ]
            exact ⟨j + 1, rfl, h2, rfl, hl2.trans hl', hq2, ⟨hp2, hok2⟩, missD.succ hm hdj hbb.symm, hs3⟩
      · have h2 : ks.length ≤ j := lt_nf h2 rfl hn0
        ((try cbv) <;> (repeat ((with_reducible refine EW.of ?_); cbv)))
        have hmiss := textDs_miss hm h2
        have hres : R (.ret (.bool false)) L' := by
          rw [hR]
          have e : textD id s (.node i k x (some p) ks) = (.node i k x (some p) ks, false) := by rw [eD, hmiss]
          refine ⟨by rw [e], hl', ?_, by rw [e]; exact hd', hs'⟩
          rw [e, hq', hob, hq, stepCell]
          first | rfl | (rw [hnk]; rfl)
        exact ⟨_, L', VSV.refl _ _ _, hres⟩
end Go.Proofs.Ytaieiigfheabfaa
