import Derived.Test.YtaieiigfheabfaaU3
/-! The step StInsert. -/
namespace Go.Proofs.Ytaieiigfheabfaa
open Go.Proofs.Ytaieiigfheabfaa.Tw
def wIns (x : Stp) (t : Tree) : Tree × Int := match findTr x.par t with
  | none => (t, 4)
  | some p => if x.pl < 0 then (t, 2) else if (p.kids.length : Int) < x.pl then (t, 2) else if (idF t [] false x.sub).2.2 = false then (t, 2) else if (idF t [] false x.sub).2.1 = true then (t, 60) else (modT x.par (insT x.pl.toNat x.sub p) t, 0)
/-- The objects of insert behind L. -/
def insX (J : EmJ) (q : Nat) (L : Store) (s : List Int) (b : Bool) : Store :=
  L ++ [some (.box 1 (.ref q 4 0 0)), some (.mp (J.c s) (J.l s)), some (.box 1 (.map (L.length + 1))), some (.box 1 (.bool b)), some (.box 1 (.func (.func 72) [] [.ref (L.length + 3) 1 0 0, .ref (L.length + 2) 1 0 0, .ref L.length 1 0 0, .ref (L.length + 4) 1 0 0]))]
theorem insX_ok (A : Ar) (E : Em) (J : EmJ) {P : Program} (hP : P = Try.prog) (q : Nat) (m : Nat) (d : DT) (L : Store) (hw : within m d.tree) (hd : d.ok L) (hq : L[q]? = some (some (.box 4 d.cell))) : InsX P J q d (insX J q L) (L.length + 5) L.length (L.length + 1) (L.length + 2) (L.length + 3) (L.length + 4) where
  len := fun s b => by simp [insX]
  g0 := fun s b => by simp [insX]
  g1 := fun s b => by simp [insX]
  g2 := fun s b => by simp [insX]
  g3 := fun s b => by simp [insX]
  g4 := fun s b => by simp [insX]
  s3 := fun s b b' => by unfold insX; rw [List.set_append_right (h := by omega)]; simp
  s1 := fun s b s' => by unfold insX; rw [List.set_append_right (h := by omega)]; simp
  fnd := fun s b id => by
    have hlt : ∀ y, y < L.length → (insX J q L s b)[y]? = L[y]? := fun y hy => List.getElem?_append_left hy
    exact find51 A E hP id m d _ (.ref q 4 0 0) hw (DT.ok.same (fun y hy => hlt y (DT.ok.lt hd y hy)) hd) (.inr ⟨q, rfl, (hlt q (List.getElem?_eq_some_iff.1 hq).1).trans hq⟩)
set_option maxHeartbeats 8000000 in
theorem insert49 (A : Ar) (E : Em) {P : Program} (hP : P = Try.prog) (x : Stp) (m : Nat) (d : DT) (L : Store) (q : Nat) (hw : within (m + 1) d.tree) (hws : within (m + 1) x.sub) (hd : d.ok L) (hn : (q :: d.foot).Nodup) (hq : L[q]? = some (some (.box 4 d.cell))) : TC P 49 [.ref q 4 0 0, .imm (scells E x)] L (wR q d (wIns x d.tree) L) := by
  obtain ⟨do_, M0, hown, hdt, hdo, hdn⟩ := own36 A E hP (m + 1) x.sub hws
  have hft1 := findD_tree x.par (.ref q 4 0 0) d
  have hlq := (List.getElem?_eq_some_iff.1 hq).1
  have hXX := insX_ok A E emJ0 hP q (m + 1) d L hw hd hq
  obtain ⟨op, id, par, pl, tx, i0, k0, s0, ks0⟩ := x
  dsimp only at hft1 hown hdt hws
  obtain ⟨rr, hrr⟩ : ∃ r, r = wIns ⟨op, id, par, pl, tx, .node i0 k0 s0 ks0⟩ d.tree := ⟨_, rfl⟩
  rw [← hrr]
  unfold wIns at hrr
  dsimp only at hrr
  unfold scells
  refine TC.of_ewp A T0 (T0_ok hP) (hP ▸ Try.func49) rfl _ rfl (by simp) ?_
  obtain ⟨R, hR⟩ : ∃ R, R = wR q d rr L := ⟨_, rfl⟩
  rw [← hR]
  obtain ⟨fr1, hfr1⟩ : ∃ r, r = findD par (.ref q 4 0 0) d := ⟨_, rfl⟩
  have hrf1 := findD_ref par (.ref q 4 0 0) d
  rw [← hfr1] at hft1 hrf1
  obtain ⟨n, hln⟩ : ∃ n, n = L.length := ⟨_, rfl⟩
  have hn0 : n < n + 1 := Nat.lt_succ_self n
  obtain ⟨L1, hL1⟩ : ∃ M : Store, M = L ++ [some (AO.box 1 (.ref q 4 0 0))] := ⟨_, rfl⟩
  have hf1 := find51 A E hP par (m + 1) d L1 (.ref q 4 0 0) hw (DT.ok.same (fun y hy => by rw [hL1, List.getElem?_append_left (DT.ok.lt hd y hy)]) hd) (.inr ⟨q, rfl, by rw [hL1, List.getElem?_append_left hlq, hq]⟩)
  rw [← hfr1] at hf1
  have hl1 : L1.length = n + 1 := by rw [hL1, hln]; simp
  have hg1 : L1[n]? = some (some (AO.box 1 (.ref q 4 0 0))) := by rw [hL1, hln]; simp
  have hres0 : ∀ (t : Tree) (e : Int) (L' : Store), e ≠ 0 → rr = (t, e) → (∀ y, y < L.length → L'[y]? = L[y]?) → L.length ≤ L'.length → R (.ret (.int .i64 e)) L' := fun t e L' he h1 h2 h3 => by
    rw [hR, h1]; exact ⟨rfl, h3, fun h => absurd h he, fun y hy _ => h2 y hy⟩
  cbv
  ((try cbv) <;> (repeat ((with_reducible refine EW.of ?_); cbv)))
  refine byes (bleM _ _ (Nat.le_refl _)) ?_
  simp only [← List.length.eq_def, ← List.append.eq_def]
  rw [show L.append [some (AO.box 1 (.ref q 4 0 0))] = L1 from hL1.symm, ← hln]
  ((try cbv) <;> (repeat ((with_reducible refine EW.of ?_); cbv)))
  refine TW.draw (A := A) (T0_ok hP) (hP ▸ follows_mixed) (by kernel_rfl) (by rw [Nat.ble_eq, hl1]; omega) ?_
  cbv
  (simp only [← List.get?Internal.eq_def]; rw [show L1.get?Internal n = _ from hg1]; cbv)
  refine ⟨Ent.of (hP ▸ Try.func51) rfl, _, hf1, ?_⟩
  have h1L : ∀ y, y < L.length → L1[y]? = L[y]? := fun y hy => by rw [hL1, List.getElem?_append_left hy]
  cases fr1 with
  | none =>
    replace hft1 : findTr par d.tree = none := hft1.symm
    rw [hft1] at hrr
    replace hrr : rr = (d.tree, 4) := hrr
    have hres : R (.ret (.int .i64 4)) L1 := hres0 _ _ _ (by decide) hrr h1L (by omega)
    cbv
    ((try cbv) <;> (repeat ((with_reducible refine EW.of ?_); cbv)))
    exact ⟨_, L1, VSV.refl _ _ _, hres⟩
  | some r1 =>
  obtain ⟨a1, e1⟩ := r1
  have hd1 : d.ok L1 := DT.ok.same (fun y hy => h1L y (DT.ok.lt hd y hy)) hd
  have hq1 : L1[q]? = some (some (.box 4 d.cell)) := (h1L q hlq).trans hq
  obtain ⟨hpt1, heo1, hwe1⟩ := ptr_of hw hd1 hn hq1 hfr1.symm
  replace hft1 : findTr par d.tree = some e1.tree := hft1.symm
  rw [hft1] at hrr
  dsimp only at hrr
  obtain ⟨p1, j1, rfl⟩ : ∃ p j, a1 = .ref p 4 j 0 := by
    rcases hrf1 _ rfl with h | h
    · exact ⟨_, _, h⟩
    · exact h
  cbv
  ((try cbv) <;> (repeat ((with_reducible refine EW.of ?_); cbv)))
  refine bsplit (fun h => ?_) (fun h => ?_)
  · have hb := h
    have h : pl < 0 := lt_t h rfl rfl
    rw [if_pos h] at hrr
    have hres : R (.ret (.int .i64 2)) L1 := hres0 _ _ _ (by decide) hrr h1L (by omega)
    ((try cbv) <;> (repeat ((with_reducible refine EW.of ?_); cbv)))
    refine byes hb ?_
    ((try cbv) <;> (repeat ((with_reducible refine EW.of ?_); cbv)))
    exact ⟨_, L1, VSV.refl _ _ _, hres⟩
  have h1 : ¬ pl < 0 := by have h' : A.lt pl 0 = false := h; rw [A.ok_lt] at h'; simpa using h'
  rw [if_neg h1] at hrr
  ((try cbv) <;> (repeat ((with_reducible refine EW.of ?_); cbv)))
  refine TW.draw (A := A) (T0_ok hP) (hP ▸ follows_mixed) (by kernel_rfl) (by rw [Nat.ble_eq, hl1]; omega) ?_
  cbv
  obtain ⟨i5, k5, s5, o5, ks5, hed5⟩ : ∃ i k s o ks, e1 = DT.node i k s o ks := by cases e1; exact ⟨_, _, _, _, _, rfl⟩
  obtain ⟨nk, hnk⟩ : ∃ n, n = ks5.length := ⟨_, rfl⟩
  have hek5 : e1.tree.kids.length = nk := by rw [hed5, DT.tree, Tree.kids, treesD_len, hnk]
  have hkl5 := within_kids hwe1
  rw [hek5] at hkl5
  have hec5 : e1.cell = .agg [.int .i64 i5, .int .i64 k5, .str s5, kidAV nk o5] := by rw [hed5, hnk]; rfl
  obtain ⟨pn, rfl⟩ : ∃ n : Nat, pl = (n : Int) := ⟨pl.toNat, by omega⟩
  have hc1 : nk < pn → rr = (d.tree, 2) := fun h7 => by rw [hrr, hek5]; exact if_pos (Int.ofNat_lt.2 h7)
  have hc2 : pn ≤ nk → rr = if (idF d.tree [] false (.node i0 k0 s0 ks0)).2.2 = false then (d.tree, 2) else if (idF d.tree [] false (.node i0 k0 s0 ks0)).2.1 = true then (d.tree, 60) else (modT par (insT pn (.node i0 k0 s0 ks0) e1.tree) d.tree, 0) := fun h7 => by rw [hrr, hek5]; exact if_neg (Int.not_lt.2 (Int.ofNat_le.2 h7))
  clear hrr
  rcases hpt1 with ⟨p6, j6, els6, hpe, hpL, hpx⟩ | ⟨p6, hpe, hpL⟩
  · cases hpe
    rw [hec5] at hpx
    cases o5 with
    | none =>
      have hLEN : A.len [] = (nk : Int) := by
        have : ks5 = [] := by rw [hed5] at heo1; exact heo1.1
        rw [A.ok_len, hnk, this]; rfl
      replace hpx : els6[j1]? = some (.agg [.int .i64 i5, .int .i64 k5, .str s5, .sl 4 []]) := hpx
      (simp only [← List.get?Internal.eq_def]; rw [show L1.get?Internal p1 = _ from hpL]; cbv)
      refine ⟨_, hpx, ?_⟩
      ((try cbv) <;> (repeat ((with_reducible refine EW.of ?_); cbv)))
      refine bsplit (fun h7 => ?_) (fun h7 => ?_)
      · have hb := h7
        have h7 : nk < pn := lt_nt h7 hLEN rfl
        have hres : R (.ret (.int .i64 2)) L1 := hres0 _ _ _ (by decide) (hc1 h7) h1L (by omega)
        cbv
        ((try cbv) <;> (repeat ((with_reducible refine EW.of ?_); cbv)))
        exact ⟨_, L1, VSV.refl _ _ _, hres⟩
      have h7 : pn ≤ nk := lt_nf h7 hLEN rfl
      have hrr := hc2 h7
      ((try cbv) <;> (repeat ((with_reducible refine EW.of ?_); cbv)))
      obtain ⟨n1, hn1⟩ : ∃ x, x = n + 1 := ⟨_, rfl⟩
      obtain ⟨n2, hn2⟩ : ∃ x, x = n + 2 := ⟨_, rfl⟩
      obtain ⟨n3, hn3⟩ : ∃ x, x = n + 3 := ⟨_, rfl⟩
      obtain ⟨n4, hn4⟩ : ∃ x, x = n + 4 := ⟨_, rfl⟩
      rw [← hn1] at hl1
      obtain ⟨M2, hM2⟩ : ∃ M : Store, M = L1 ++ [some (AO.mp 0 [])] := ⟨_, rfl⟩
      have hl2 : M2.length = n2 := by rw [hM2]; simp [hl1]; omega
      obtain ⟨M3, hM3⟩ : ∃ M : Store, M = M2 ++ [some (AO.box 1 (.raw (Value.map none)))] := ⟨_, rfl⟩
      have hg3 : M3[n2]? = some (some (AO.box 1 (.raw (Value.map none)))) := by rw [hM3, ← hl2]; simp
      simp only [← List.length.eq_def, ← List.append.eq_def, ← List.get?Internal.eq_def]
      rw [show L1.append [some (AO.mp 0 [])] = M2 from hM2.symm, hl1]
      rw [show M2.append [some (AO.box 1 (.raw (Value.map none)))] = M3 from hM3.symm, hl2]
      rw [show M3.get?Internal n2 = _ from hg3]
      refine byes (bleM _ _ (by omega)) ?_
      refine byes (bleM _ _ (by omega)) ?_
      refine chk_iff.2 ⟨by rfl, ?_⟩
      generalize hM4 : List.set M3 _ _ = M4
      replace hM4 : M4 = M2 ++ [some (AO.box 1 (.map n1))] := by rw [← hM4, hM3, List.set_append_right (h := by omega), hl2]; simp; rfl
      have hl4 : M4.length = n3 := by rw [hM4]; simp [hl2]; omega
      obtain ⟨M5, hM5⟩ : ∃ M : Store, M = M4 ++ [some (AO.box 1 (.bool false))] := ⟨_, rfl⟩
      have hg5 : M5[n3]? = some (some (AO.box 1 (.bool false))) := by rw [hM5, ← hl4]; simp
      ((try cbv) <;> (repeat ((with_reducible refine EW.of ?_); cbv)))
      simp only [← List.length.eq_def, ← List.append.eq_def, ← List.get?Internal.eq_def]
      rw [show M4.append [some (AO.box 1 (.bool false))] = M5 from hM5.symm, hl4]
      rw [show M5.get?Internal n3 = _ from hg5]
      refine byes (bleM _ _ (by omega)) ?_
      refine chk_iff.2 ⟨by rfl, ?_⟩
      generalize hM6 : List.set M5 _ _ = M6
      replace hM6 : M6 = M5 := by rw [← hM6, hM5, List.set_append_right (h := by omega), hl4]; simp; rfl
      subst hM6
      have hl6 : M6.length = n4 := by rw [hM5]; simp [hl4]; omega
      obtain ⟨M7, hM7⟩ : ∃ M : Store, M = M6 ++ [some (AO.box 1 .nilf)] := ⟨_, rfl⟩
      have hg7 : M7[n4]? = some (some (AO.box 1 .nilf)) := by rw [hM7, ← hl6]; simp
      have hl7 : M7.length = n + 5 := by rw [hM7]; simp [hl6]; omega
      ((try cbv) <;> (repeat ((with_reducible refine EW.of ?_); cbv)))
      simp only [← List.length.eq_def, ← List.append.eq_def]
      rw [show M6.append [some (AO.box 1 .nilf)] = M7 from hM7.symm, hl6]
      refine byes (bleM _ _ (by omega)) ?_
      ((try cbv) <;> (repeat ((with_reducible refine EW.of ?_); cbv)))
      simp only [← List.get?Internal.eq_def]
      rw [show M7.get?Internal n4 = _ from hg7]
      refine chk_iff.2 ⟨by rfl, ?_⟩
      generalize hM8 : List.set M7 _ _ = M8
      replace hM8 : M8 = insX emJ0 q L [] false := by
        rw [← hM8, hM7, List.set_append_right (h := by omega), hl6, hM5, hM4, hM2, hL1]
        simp only [Nat.sub_self, List.set_cons_zero, insX, List.append_assoc, List.cons_append, List.nil_append, emJ0.nil, emJ0.cnil]
        rw [hn1, hn2, hn3, hn4, hln]
        rfl
      have hXX2 : InsX P emJ0 q d (insX emJ0 q L) (n + 5) n n1 n2 n3 n4 := by rw [hn1, hn2, hn3, hn4, hln]; exact hXX
      have hids2 := ids72 A E emJ0 hP q d _ _ _ _ _ _ _ hXX2 (m + 1) (.node i0 k0 s0 ks0) hws [] false
      unfold tcells at hids2
      rw [← hM8] at hids2
      obtain ⟨r2, hr2⟩ : ∃ r2, r2 = idF d.tree [] false (.node i0 k0 s0 ks0) := ⟨_, rfl⟩
      rw [← hr2] at hids2 hrr
      obtain ⟨s2, b2, ok2⟩ := r2
      dsimp only at hids2 hrr
      obtain ⟨M9, hM9⟩ : ∃ M, M = insX emJ0 q L s2 b2 := ⟨_, rfl⟩
      rw [← hM9] at hids2
      have hl8 : M8.length = n + 5 := by rw [hM8, hXX2.len]
      have hl9 : M9.length = n + 5 := by rw [hM9, hXX2.len]
      have h9L : ∀ y, y < L.length → M9[y]? = L[y]? := fun y hy => by rw [hM9]; exact List.getElem?_append_left hy
      ((try cbv) <;> (repeat ((with_reducible refine EW.of ?_); cbv)))
      refine TW.drawE (A := A) false [] M8 [(4, M9)] rfl (T0_ok hP) (hP ▸ follows_mixed) (by kernel_rfl) rfl (by kernel_rfl) (by cbv) (by first | kernel_rfl | cbv) rfl rfl (by rw [Bool.and_eq_true, Bool.and_eq_true]; exact ⟨rfl, by rw [Nat.ble_eq, List.nil_append]; omega, by simp only [List.all_cons, List.all_nil, Bool.and_true, List.nil_append, Nat.ble_eq]; omega⟩) ?_
      cbv
      (simp only [← List.get?Internal.eq_def]; rw [show M8.get?Internal n4 = _ from (hM8 ▸ hXX2.g4 [] false)]; cbv)
      simp only [← List.length.eq_def]
      refine byes (bleM _ _ (by omega)) ?_
      refine ⟨Ent.of (hP ▸ Try.func72) rfl, _, _, hids2, ?_⟩
      refine ⟨rfl, ?_⟩
      cases ok2 with
      | false =>
        rw [if_pos rfl] at hrr
        have hres : R (.ret (.int .i64 2)) M9 := hres0 _ _ _ (by decide) hrr h9L (by omega)
        cbv
        ((try cbv) <;> (repeat ((with_reducible refine EW.of ?_); cbv)))
        exact ⟨_, M9, VSV.refl _ _ _, hres⟩
      | true =>
      rw [if_neg (by simp)] at hrr
      cbv
      ((try cbv) <;> (repeat ((with_reducible refine EW.of ?_); cbv)))
      (simp only [← List.get?Internal.eq_def]; rw [show M9.get?Internal n3 = _ from (hM9 ▸ hXX2.g3 s2 b2)]; cbv)
      ((try cbv) <;> (repeat ((with_reducible refine EW.of ?_); cbv)))
      cases b2 with
      | true =>
        rw [if_pos rfl] at hrr
        have hres : R (.ret (.int .i64 60)) M9 := hres0 _ _ _ (by decide) hrr h9L (by omega)
        cbv
        ((try cbv) <;> (repeat ((with_reducible refine EW.of ?_); cbv)))
        exact ⟨_, M9, VSV.refl _ _ _, hres⟩
      | false =>
      rw [if_neg (by simp)] at hrr
      obtain ⟨M10, hM10⟩ : ∃ M, M = M9 ++ mvS M9 M0 := ⟨_, rfl⟩
      obtain ⟨dy, hdy⟩ : ∃ y, y = do_.sh M9.length := ⟨_, rfl⟩
      have hown2 := TC1.atL hown (by simp [tcells, purL, AV.pur, E.tree.purL]) (fun p hp => DT.ok.lt hdo p hp) M9
      rw [← hM10, ← hdy] at hown2
      have hdyo : dy.ok M10 := by rw [hdy, hM10]; exact okMoved hdo
      have hdyn : dy.foot.Nodup := by rw [hdy, DT.sh_foot]; exact List.pairwise_map.2 (hdn.imp fun hab e => hab (Nat.add_left_cancel e))
      have hdyt : dy.tree = .node i0 k0 s0 ks0 := by rw [hdy, DT.sh_tree, hdt]
      have hdyf : ∀ x ∈ dy.foot, n + 5 ≤ x := fun x hx => by
        rw [hdy, DT.sh_foot] at hx
        obtain ⟨z, _, rfl⟩ := List.mem_map.1 hx
        omega
      have h109 : ∀ y, y < M9.length → M10[y]? = M9[y]? := fun y hy => by rw [hM10]; exact List.getElem?_append_left hy
      have hl10 : n + 5 ≤ M10.length := by rw [hM10, List.length_append]; omega
      have h10L : ∀ y, y < L.length → M10[y]? = L[y]? := fun y hy => (h109 y (by omega)).trans (h9L y hy)
      have hd10 : d.ok M10 := DT.ok.same (fun y hy => h10L y (DT.ok.lt hd y hy)) hd
      have hq10 : M10[q]? = some (some (.box 4 d.cell)) := (h10L q hlq).trans hq
      have hput := putFound A hP par (m + 1) d M10 q hw hd10 hn hq10 _ e1 hfr1.symm dy hdyo hdyn (fun x hx h => by
        have := hdyf x hx
        rcases List.mem_cons.1 h with h | h
        · omega
        · have := DT.ok.lt hd x h; omega) pn (by rw [hek5]; exact h7) (by rw [hek5]; exact hkl5)
      rw [hdyt] at hput
      obtain ⟨cy, hcy⟩ : ∃ c, c = dy.cell := ⟨_, rfl⟩
      rw [← hcy] at hput hown2
      unfold tcells at hown2
      cbv
      ((try cbv) <;> (repeat ((with_reducible refine EW.of ?_); cbv)))
      refine TW.drawE (A := A) false [] M9 [(8, M10)] rfl (T0_ok hP) (hP ▸ follows_mixed) (by kernel_rfl) rfl (by kernel_rfl) (by cbv) (by first | kernel_rfl | cbv) rfl rfl (by rw [Bool.and_eq_true, Bool.and_eq_true]; exact ⟨rfl, by rw [Nat.ble_eq, List.nil_append]; omega, by simp only [List.all_cons, List.all_nil, Bool.and_true, List.nil_append, Nat.ble_eq]; omega⟩) ?_
      cbv
      simp only [← List.length.eq_def]
      refine byes (bleM _ _ (by omega)) ?_
      refine ⟨Ent.of (hP ▸ Try.func36) rfl, _, _, hown2, ?_⟩
      refine ⟨rfl, ?_⟩
      cbv
      simp only [← List.length.eq_def]
      refine byes (bleM _ _ (by omega)) ?_
      refine ⟨Ent.of (hP ▸ Try.func73) rfl, TC.mono hput ?_⟩
      rintro y L7 ⟨rfl, hl7, ⟨d7, ht7, hq7, hd7, hn7⟩, hs7⟩
      have hres : R (.ret (.int .i64 0)) L7 := by
        rw [hR, hrr]
        exact ⟨rfl, by omega, fun _ => ⟨d7, ht7, hq7, hd7, hn7⟩, fun y h1 h2 => by rw [hs7 y (by omega) h2, h10L y h1]⟩
      cbv
      ((try cbv) <;> (repeat ((with_reducible refine EW.of ?_); cbv)))
      exact ⟨_, L7, VSV.refl _ _ _, hres⟩
    | some o6 =>
      have hLEN : A.nat nk = (nk : Int) := A.ok_nat nk
      replace hpx : els6[j1]? = some (.agg [.int .i64 i5, .int .i64 k5, .str s5, .row o6 4 0 nk]) := hpx
      (simp only [← List.get?Internal.eq_def]; rw [show L1.get?Internal p1 = _ from hpL]; cbv)
      refine ⟨_, hpx, ?_⟩
      ((try cbv) <;> (repeat ((with_reducible refine EW.of ?_); cbv)))
      refine bsplit (fun h7 => ?_) (fun h7 => ?_)
      · have hb := h7
        have h7 : nk < pn := lt_nt h7 hLEN rfl
        have hres : R (.ret (.int .i64 2)) L1 := hres0 _ _ _ (by decide) (hc1 h7) h1L (by omega)
        cbv
        ((try cbv) <;> (repeat ((with_reducible refine EW.of ?_); cbv)))
        exact ⟨_, L1, VSV.refl _ _ _, hres⟩
      have h7 : pn ≤ nk := lt_nf h7 hLEN rfl
      have hrr := hc2 h7
      ((try cbv) <;> (repeat ((with_reducible refine EW.of ?_); cbv)))
      obtain ⟨n1, hn1⟩ : ∃ x, x = n + 1 := ⟨_, rfl⟩
      obtain ⟨n2, hn2⟩ : ∃ x, x = n + 2 := ⟨_, rfl⟩
      obtain ⟨n3, hn3⟩ : ∃ x, x = n + 3 := ⟨_, rfl⟩
      obtain ⟨n4, hn4⟩ : ∃ x, x = n + 4 := ⟨_, rfl⟩
      rw [← hn1] at hl1
      obtain ⟨M2, hM2⟩ : ∃ M : Store, M = L1 ++ [some (AO.mp 0 [])] := ⟨_, rfl⟩
      have hl2 : M2.length = n2 := by rw [hM2]; simp [hl1]; omega
      obtain ⟨M3, hM3⟩ : ∃ M : Store, M = M2 ++ [some (AO.box 1 (.raw (Value.map none)))] := ⟨_, rfl⟩
      have hg3 : M3[n2]? = some (some (AO.box 1 (.raw (Value.map none)))) := by rw [hM3, ← hl2]; simp
      simp only [← List.length.eq_def, ← List.append.eq_def, ← List.get?Internal.eq_def]
      rw [show L1.append [some (AO.mp 0 [])] = M2 from hM2.symm, hl1]
      rw [show M2.append [some (AO.box 1 (.raw (Value.map none)))] = M3 from hM3.symm, hl2]
      rw [show M3.get?Internal n2 = _ from hg3]
      refine byes (bleM _ _ (by omega)) ?_
      refine byes (bleM _ _ (by omega)) ?_
      refine chk_iff.2 ⟨by rfl, ?_⟩
      generalize hM4 : List.set M3 _ _ = M4
      replace hM4 : M4 = M2 ++ [some (AO.box 1 (.map n1))] := by rw [← hM4, hM3, List.set_append_right (h := by omega), hl2]; simp; rfl
      have hl4 : M4.length = n3 := by rw [hM4]; simp [hl2]; omega
      obtain ⟨M5, hM5⟩ : ∃ M : Store, M = M4 ++ [some (AO.box 1 (.bool false))] := ⟨_, rfl⟩
      have hg5 : M5[n3]? = some (some (AO.box 1 (.bool false))) := by rw [hM5, ← hl4]; simp
      ((try cbv) <;> (repeat ((with_reducible refine EW.of ?_); cbv)))
      simp only [← List.length.eq_def, ← List.append.eq_def, ← List.get?Internal.eq_def]
      rw [show M4.append [some (AO.box 1 (.bool false))] = M5 from hM5.symm, hl4]
      rw [show M5.get?Internal n3 = _ from hg5]
      refine byes (bleM _ _ (by omega)) ?_
      refine chk_iff.2 ⟨by rfl, ?_⟩
      generalize hM6 : List.set M5 _ _ = M6
      replace hM6 : M6 = M5 := by rw [← hM6, hM5, List.set_append_right (h := by omega), hl4]; simp; rfl
      subst hM6
      have hl6 : M6.length = n4 := by rw [hM5]; simp [hl4]; omega
      obtain ⟨M7, hM7⟩ : ∃ M : Store, M = M6 ++ [some (AO.box 1 .nilf)] := ⟨_, rfl⟩
      have hg7 : M7[n4]? = some (some (AO.box 1 .nilf)) := by rw [hM7, ← hl6]; simp
      have hl7 : M7.length = n + 5 := by rw [hM7]; simp [hl6]; omega
      ((try cbv) <;> (repeat ((with_reducible refine EW.of ?_); cbv)))
      simp only [← List.length.eq_def, ← List.append.eq_def]
      rw [show M6.append [some (AO.box 1 .nilf)] = M7 from hM7.symm, hl6]
      refine byes (bleM _ _ (by omega)) ?_
      ((try cbv) <;> (repeat ((with_reducible refine EW.of ?_); cbv)))
      simp only [← List.get?Internal.eq_def]
      rw [show M7.get?Internal n4 = _ from hg7]
      refine chk_iff.2 ⟨by rfl, ?_⟩
      generalize hM8 : List.set M7 _ _ = M8
      replace hM8 : M8 = insX emJ0 q L [] false := by
        rw [← hM8, hM7, List.set_append_right (h := by omega), hl6, hM5, hM4, hM2, hL1]
        simp only [Nat.sub_self, List.set_cons_zero, insX, List.append_assoc, List.cons_append, List.nil_append, emJ0.nil, emJ0.cnil]
        rw [hn1, hn2, hn3, hn4, hln]
        rfl
      have hXX2 : InsX P emJ0 q d (insX emJ0 q L) (n + 5) n n1 n2 n3 n4 := by rw [hn1, hn2, hn3, hn4, hln]; exact hXX
      have hids2 := ids72 A E emJ0 hP q d _ _ _ _ _ _ _ hXX2 (m + 1) (.node i0 k0 s0 ks0) hws [] false
      unfold tcells at hids2
      rw [← hM8] at hids2
      obtain ⟨r2, hr2⟩ : ∃ r2, r2 = idF d.tree [] false (.node i0 k0 s0 ks0) := ⟨_, rfl⟩
      rw [← hr2] at hids2 hrr
      obtain ⟨s2, b2, ok2⟩ := r2
      dsimp only at hids2 hrr
      obtain ⟨M9, hM9⟩ : ∃ M, M = insX emJ0 q L s2 b2 := ⟨_, rfl⟩
      rw [← hM9] at hids2
      have hl8 : M8.length = n + 5 := by rw [hM8, hXX2.len]
      have hl9 : M9.length = n + 5 := by rw [hM9, hXX2.len]
      have h9L : ∀ y, y < L.length → M9[y]? = L[y]? := fun y hy => by rw [hM9]; exact List.getElem?_append_left hy
      ((try cbv) <;> (repeat ((with_reducible refine EW.of ?_); cbv)))
      refine TW.drawE (A := A) false [] M8 [(4, M9)] rfl (T0_ok hP) (hP ▸ follows_mixed) (by kernel_rfl) rfl (by kernel_rfl) (by cbv) (by first | kernel_rfl | cbv) rfl rfl (by rw [Bool.and_eq_true, Bool.and_eq_true]; exact ⟨rfl, by rw [Nat.ble_eq, List.nil_append]; omega, by simp only [List.all_cons, List.all_nil, Bool.and_true, List.nil_append, Nat.ble_eq]; omega⟩) ?_
      cbv
      (simp only [← List.get?Internal.eq_def]; rw [show M8.get?Internal n4 = _ from (hM8 ▸ hXX2.g4 [] false)]; cbv)
      simp only [← List.length.eq_def]
      refine byes (bleM _ _ (by omega)) ?_
      refine ⟨Ent.of (hP ▸ Try.func72) rfl, _, _, hids2, ?_⟩
      refine ⟨rfl, ?_⟩
      cases ok2 with
      | false =>
        rw [if_pos rfl] at hrr
        have hres : R (.ret (.int .i64 2)) M9 := hres0 _ _ _ (by decide) hrr h9L (by omega)
        cbv
        ((try cbv) <;> (repeat ((with_reducible refine EW.of ?_); cbv)))
        exact ⟨_, M9, VSV.refl _ _ _, hres⟩
      | true =>
      rw [if_neg (by simp)] at hrr
      cbv
      ((try cbv) <;> (repeat ((with_reducible refine EW.of ?_); cbv)))
      (simp only [← List.get?Internal.eq_def]; rw [show M9.get?Internal n3 = _ from (hM9 ▸ hXX2.g3 s2 b2)]; cbv)
      ((try cbv) <;> (repeat ((with_reducible refine EW.of ?_); cbv)))
      cases b2 with
      | true =>
        rw [if_pos rfl] at hrr
        have hres : R (.ret (.int .i64 60)) M9 := hres0 _ _ _ (by decide) hrr h9L (by omega)
        cbv
        ((try cbv) <;> (repeat ((with_reducible refine EW.of ?_); cbv)))
        exact ⟨_, M9, VSV.refl _ _ _, hres⟩
      | false =>
      rw [if_neg (by simp)] at hrr
      obtain ⟨M10, hM10⟩ : ∃ M, M = M9 ++ mvS M9 M0 := ⟨_, rfl⟩
      obtain ⟨dy, hdy⟩ : ∃ y, y = do_.sh M9.length := ⟨_, rfl⟩
      have hown2 := TC1.atL hown (by simp [tcells, purL, AV.pur, E.tree.purL]) (fun p hp => DT.ok.lt hdo p hp) M9
      rw [← hM10, ← hdy] at hown2
      have hdyo : dy.ok M10 := by rw [hdy, hM10]; exact okMoved hdo
      have hdyn : dy.foot.Nodup := by rw [hdy, DT.sh_foot]; exact List.pairwise_map.2 (hdn.imp fun hab e => hab (Nat.add_left_cancel e))
      have hdyt : dy.tree = .node i0 k0 s0 ks0 := by rw [hdy, DT.sh_tree, hdt]
      have hdyf : ∀ x ∈ dy.foot, n + 5 ≤ x := fun x hx => by
        rw [hdy, DT.sh_foot] at hx
        obtain ⟨z, _, rfl⟩ := List.mem_map.1 hx
        omega
      have h109 : ∀ y, y < M9.length → M10[y]? = M9[y]? := fun y hy => by rw [hM10]; exact List.getElem?_append_left hy
      have hl10 : n + 5 ≤ M10.length := by rw [hM10, List.length_append]; omega
      have h10L : ∀ y, y < L.length → M10[y]? = L[y]? := fun y hy => (h109 y (by omega)).trans (h9L y hy)
      have hd10 : d.ok M10 := DT.ok.same (fun y hy => h10L y (DT.ok.lt hd y hy)) hd
      have hq10 : M10[q]? = some (some (.box 4 d.cell)) := (h10L q hlq).trans hq
      have hput := putFound A hP par (m + 1) d M10 q hw hd10 hn hq10 _ e1 hfr1.symm dy hdyo hdyn (fun x hx h => by
        have := hdyf x hx
        rcases List.mem_cons.1 h with h | h
        · omega
        · have := DT.ok.lt hd x h; omega) pn (by rw [hek5]; exact h7) (by rw [hek5]; exact hkl5)
      rw [hdyt] at hput
      obtain ⟨cy, hcy⟩ : ∃ c, c = dy.cell := ⟨_, rfl⟩
      rw [← hcy] at hput hown2
      unfold tcells at hown2
      cbv
      ((try cbv) <;> (repeat ((with_reducible refine EW.of ?_); cbv)))
      refine TW.drawE (A := A) false [] M9 [(8, M10)] rfl (T0_ok hP) (hP ▸ follows_mixed) (by kernel_rfl) rfl (by kernel_rfl) (by cbv) (by first | kernel_rfl | cbv) rfl rfl (by rw [Bool.and_eq_true, Bool.and_eq_true]; exact ⟨rfl, by rw [Nat.ble_eq, List.nil_append]; omega, by simp only [List.all_cons, List.all_nil, Bool.and_true, List.nil_append, Nat.ble_eq]; omega⟩) ?_
      cbv
      simp only [← List.length.eq_def]
      refine byes (bleM _ _ (by omega)) ?_
      refine ⟨Ent.of (hP ▸ Try.func36) rfl, _, _, hown2, ?_⟩
      refine ⟨rfl, ?_⟩
      cbv
      simp only [← List.length.eq_def]
      refine byes (bleM _ _ (by omega)) ?_
      refine ⟨Ent.of (hP ▸ Try.func73) rfl, TC.mono hput ?_⟩
      rintro y L7 ⟨rfl, hl7, ⟨d7, ht7, hq7, hd7, hn7⟩, hs7⟩
      have hres : R (.ret (.int .i64 0)) L7 := by
        rw [hR, hrr]
        exact ⟨rfl, by omega, fun _ => ⟨d7, ht7, hq7, hd7, hn7⟩, fun y h1 h2 => by rw [hs7 y (by omega) h2, h10L y h1]⟩
      cbv
      ((try cbv) <;> (repeat ((with_reducible refine EW.of ?_); cbv)))
      exact ⟨_, L7, VSV.refl _ _ _, hres⟩
  · cases hpe
    rw [hec5] at hpL
    cases o5 with
    | none =>
      have hLEN : A.len [] = (nk : Int) := by
        have : ks5 = [] := by rw [hed5] at heo1; exact heo1.1
        rw [A.ok_len, hnk, this]; rfl
      replace hpL : L1[p1]? = some (some (.box 4 (.agg [.int .i64 i5, .int .i64 k5, .str s5, .sl 4 []]))) := hpL
      (simp only [← List.get?Internal.eq_def]; rw [show L1.get?Internal p1 = _ from hpL]; cbv)
      ((try cbv) <;> (repeat ((with_reducible refine EW.of ?_); cbv)))
      refine bsplit (fun h7 => ?_) (fun h7 => ?_)
      · have hb := h7
        have h7 : nk < pn := lt_nt h7 hLEN rfl
        have hres : R (.ret (.int .i64 2)) L1 := hres0 _ _ _ (by decide) (hc1 h7) h1L (by omega)
        cbv
        ((try cbv) <;> (repeat ((with_reducible refine EW.of ?_); cbv)))
        exact ⟨_, L1, VSV.refl _ _ _, hres⟩
      have h7 : pn ≤ nk := lt_nf h7 hLEN rfl
      have hrr := hc2 h7
      ((try cbv) <;> (repeat ((with_reducible refine EW.of ?_); cbv)))
      obtain ⟨n1, hn1⟩ : ∃ x, x = n + 1 := ⟨_, rfl⟩
      obtain ⟨n2, hn2⟩ : ∃ x, x = n + 2 := ⟨_, rfl⟩
      obtain ⟨n3, hn3⟩ : ∃ x, x = n + 3 := ⟨_, rfl⟩
      obtain ⟨n4, hn4⟩ : ∃ x, x = n + 4 := ⟨_, rfl⟩
      rw [← hn1] at hl1
      obtain ⟨M2, hM2⟩ : ∃ M : Store, M = L1 ++ [some (AO.mp 0 [])] := ⟨_, rfl⟩
      have hl2 : M2.length = n2 := by rw [hM2]; simp [hl1]; omega
      obtain ⟨M3, hM3⟩ : ∃ M : Store, M = M2 ++ [some (AO.box 1 (.raw (Value.map none)))] := ⟨_, rfl⟩
      have hg3 : M3[n2]? = some (some (AO.box 1 (.raw (Value.map none)))) := by rw [hM3, ← hl2]; simp
      simp only [← List.length.eq_def, ← List.append.eq_def, ← List.get?Internal.eq_def]
      rw [show L1.append [some (AO.mp 0 [])] = M2 from hM2.symm, hl1]
      rw [show M2.append [some (AO.box 1 (.raw (Value.map none)))] = M3 from hM3.symm, hl2]
      rw [show M3.get?Internal n2 = _ from hg3]
      refine byes (bleM _ _ (by omega)) ?_
      refine byes (bleM _ _ (by omega)) ?_
      refine chk_iff.2 ⟨by rfl, ?_⟩
      generalize hM4 : List.set M3 _ _ = M4
      replace hM4 : M4 = M2 ++ [some (AO.box 1 (.map n1))] := by rw [← hM4, hM3, List.set_append_right (h := by omega), hl2]; simp; rfl
      have hl4 : M4.length = n3 := by rw [hM4]; simp [hl2]; omega
      obtain ⟨M5, hM5⟩ : ∃ M : Store, M = M4 ++ [some (AO.box 1 (.bool false))] := ⟨_, rfl⟩
      have hg5 : M5[n3]? = some (some (AO.box 1 (.bool false))) := by rw [hM5, ← hl4]; simp
      ((try cbv) <;> (repeat ((with_reducible refine EW.of ?_); cbv)))
      simp only [← List.length.eq_def, ← List.append.eq_def, ← List.get?Internal.eq_def]
      rw [show M4.append [some (AO.box 1 (.bool false))] = M5 from hM5.symm, hl4]
      rw [show M5.get?Internal n3 = _ from hg5]
      refine byes (bleM _ _ (by omega)) ?_
      refine chk_iff.2 ⟨by rfl, ?_⟩
      generalize hM6 : List.set M5 _ _ = M6
      replace hM6 : M6 = M5 := by rw [← hM6, hM5, List.set_append_right (h := by omega), hl4]; simp; rfl
      subst hM6
      have hl6 : M6.length = n4 := by rw [hM5]; simp [hl4]; omega
      obtain ⟨M7, hM7⟩ : ∃ M : Store, M = M6 ++ [some (AO.box 1 .nilf)] := ⟨_, rfl⟩
      have hg7 : M7[n4]? = some (some (AO.box 1 .nilf)) := by rw [hM7, ← hl6]; simp
      have hl7 : M7.length = n + 5 := by rw [hM7]; simp [hl6]; omega
      ((try cbv) <;> (repeat ((with_reducible refine EW.of ?_); cbv)))
      simp only [← List.length.eq_def, ← List.append.eq_def]
      rw [show M6.append [some (AO.box 1 .nilf)] = M7 from hM7.symm, hl6]
      refine byes (bleM _ _ (by omega)) ?_
      ((try cbv) <;> (repeat ((with_reducible refine EW.of ?_); cbv)))
      simp only [← List.get?Internal.eq_def]
      rw [show M7.get?Internal n4 = _ from hg7]
      refine chk_iff.2 ⟨by rfl, ?_⟩
      generalize hM8 : List.set M7 _ _ = M8
      replace hM8 : M8 = insX emJ0 q L [] false := by
        rw [← hM8, hM7, List.set_append_right (h := by omega), hl6, hM5, hM4, hM2, hL1]
        simp only [Nat.sub_self, List.set_cons_zero, insX, List.append_assoc, List.cons_append, List.nil_append, emJ0.nil, emJ0.cnil]
        rw [hn1, hn2, hn3, hn4, hln]
        rfl
      have hXX2 : InsX P emJ0 q d (insX emJ0 q L) (n + 5) n n1 n2 n3 n4 := by rw [hn1, hn2, hn3, hn4, hln]; exact hXX
      have hids2 := ids72 A E emJ0 hP q d _ _ _ _ _ _ _ hXX2 (m + 1) (.node i0 k0 s0 ks0) hws [] false
      unfold tcells at hids2
      rw [← hM8] at hids2
      obtain ⟨r2, hr2⟩ : ∃ r2, r2 = idF d.tree [] false (.node i0 k0 s0 ks0) := ⟨_, rfl⟩
      rw [← hr2] at hids2 hrr
      obtain ⟨s2, b2, ok2⟩ := r2
      dsimp only at hids2 hrr
      obtain ⟨M9, hM9⟩ : ∃ M, M = insX emJ0 q L s2 b2 := ⟨_, rfl⟩
      rw [← hM9] at hids2
      have hl8 : M8.length = n + 5 := by rw [hM8, hXX2.len]
      have hl9 : M9.length = n + 5 := by rw [hM9, hXX2.len]
      have h9L : ∀ y, y < L.length → M9[y]? = L[y]? := fun y hy => by rw [hM9]; exact List.getElem?_append_left hy
      ((try cbv) <;> (repeat ((with_reducible refine EW.of ?_); cbv)))
      refine TW.drawE (A := A) false [] M8 [(4, M9)] rfl (T0_ok hP) (hP ▸ follows_mixed) (by kernel_rfl) rfl (by kernel_rfl) (by cbv) (by first | kernel_rfl | cbv) rfl rfl (by rw [Bool.and_eq_true, Bool.and_eq_true]; exact ⟨rfl, by rw [Nat.ble_eq, List.nil_append]; omega, by simp only [List.all_cons, List.all_nil, Bool.and_true, List.nil_append, Nat.ble_eq]; omega⟩) ?_
      cbv
      (simp only [← List.get?Internal.eq_def]; rw [show M8.get?Internal n4 = _ from (hM8 ▸ hXX2.g4 [] false)]; cbv)
      simp only [← List.length.eq_def]
      refine byes (bleM _ _ (by omega)) ?_
      refine ⟨Ent.of (hP ▸ Try.func72) rfl, _, _, hids2, ?_⟩
      refine ⟨rfl, ?_⟩
      cases ok2 with
      | false =>
        rw [if_pos rfl] at hrr
        have hres : R (.ret (.int .i64 2)) M9 := hres0 _ _ _ (by decide) hrr h9L (by omega)
        cbv
        ((try cbv) <;> (repeat ((with_reducible refine EW.of ?_); cbv)))
        exact ⟨_, M9, VSV.refl _ _ _, hres⟩
      | true =>
      rw [if_neg (by simp)] at hrr
      cbv
      ((try cbv) <;> (repeat ((with_reducible refine EW.of ?_); cbv)))
      (simp only [← List.get?Internal.eq_def]; rw [show M9.get?Internal n3 = _ from (hM9 ▸ hXX2.g3 s2 b2)]; cbv)
      ((try cbv) <;> (repeat ((with_reducible refine EW.of ?_); cbv)))
      cases b2 with
      | true =>
        rw [if_pos rfl] at hrr
        have hres : R (.ret (.int .i64 60)) M9 := hres0 _ _ _ (by decide) hrr h9L (by omega)
        cbv
        ((try cbv) <;> (repeat ((with_reducible refine EW.of ?_); cbv)))
        exact ⟨_, M9, VSV.refl _ _ _, hres⟩
      | false =>
      rw [if_neg (by simp)] at hrr
      obtain ⟨M10, hM10⟩ : ∃ M, M = M9 ++ mvS M9 M0 := ⟨_, rfl⟩
      obtain ⟨dy, hdy⟩ : ∃ y, y = do_.sh M9.length := ⟨_, rfl⟩
      have hown2 := TC1.atL hown (by simp [tcells, purL, AV.pur, E.tree.purL]) (fun p hp => DT.ok.lt hdo p hp) M9
      rw [← hM10, ← hdy] at hown2
      have hdyo : dy.ok M10 := by rw [hdy, hM10]; exact okMoved hdo
      have hdyn : dy.foot.Nodup := by rw [hdy, DT.sh_foot]; exact List.pairwise_map.2 (hdn.imp fun hab e => hab (Nat.add_left_cancel e))
      have hdyt : dy.tree = .node i0 k0 s0 ks0 := by rw [hdy, DT.sh_tree, hdt]
      have hdyf : ∀ x ∈ dy.foot, n + 5 ≤ x := fun x hx => by
        rw [hdy, DT.sh_foot] at hx
        obtain ⟨z, _, rfl⟩ := List.mem_map.1 hx
        omega
      have h109 : ∀ y, y < M9.length → M10[y]? = M9[y]? := fun y hy => by rw [hM10]; exact List.getElem?_append_left hy
      have hl10 : n + 5 ≤ M10.length := by rw [hM10, List.length_append]; omega
      have h10L : ∀ y, y < L.length → M10[y]? = L[y]? := fun y hy => (h109 y (by omega)).trans (h9L y hy)
      have hd10 : d.ok M10 := DT.ok.same (fun y hy => h10L y (DT.ok.lt hd y hy)) hd
      have hq10 : M10[q]? = some (some (.box 4 d.cell)) := (h10L q hlq).trans hq
      have hput := putFound A hP par (m + 1) d M10 q hw hd10 hn hq10 _ e1 hfr1.symm dy hdyo hdyn (fun x hx h => by
        have := hdyf x hx
        rcases List.mem_cons.1 h with h | h
        · omega
        · have := DT.ok.lt hd x h; omega) pn (by rw [hek5]; exact h7) (by rw [hek5]; exact hkl5)
      rw [hdyt] at hput
      obtain ⟨cy, hcy⟩ : ∃ c, c = dy.cell := ⟨_, rfl⟩
      rw [← hcy] at hput hown2
      unfold tcells at hown2
      cbv
      ((try cbv) <;> (repeat ((with_reducible refine EW.of ?_); cbv)))
      refine TW.drawE (A := A) false [] M9 [(8, M10)] rfl (T0_ok hP) (hP ▸ follows_mixed) (by kernel_rfl) rfl (by kernel_rfl) (by cbv) (by first | kernel_rfl | cbv) rfl rfl (by rw [Bool.and_eq_true, Bool.and_eq_true]; exact ⟨rfl, by rw [Nat.ble_eq, List.nil_append]; omega, by simp only [List.all_cons, List.all_nil, Bool.and_true, List.nil_append, Nat.ble_eq]; omega⟩) ?_
      cbv
      simp only [← List.length.eq_def]
      refine byes (bleM _ _ (by omega)) ?_
      refine ⟨Ent.of (hP ▸ Try.func36) rfl, _, _, hown2, ?_⟩
      refine ⟨rfl, ?_⟩
      cbv
      simp only [← List.length.eq_def]
      refine byes (bleM _ _ (by omega)) ?_
      refine ⟨Ent.of (hP ▸ Try.func73) rfl, TC.mono hput ?_⟩
      rintro y L7 ⟨rfl, hl7, ⟨d7, ht7, hq7, hd7, hn7⟩, hs7⟩
      have hres : R (.ret (.int .i64 0)) L7 := by
        rw [hR, hrr]
        exact ⟨rfl, by omega, fun _ => ⟨d7, ht7, hq7, hd7, hn7⟩, fun y h1 h2 => by rw [hs7 y (by omega) h2, h10L y h1]⟩
      cbv
      ((try cbv) <;> (repeat ((with_reducible refine EW.of ?_); cbv)))
      exact ⟨_, L7, VSV.refl _ _ _, hres⟩
    | some o6 =>
      have hLEN : A.nat nk = (nk : Int) := A.ok_nat nk
      replace hpL : L1[p1]? = some (some (.box 4 (.agg [.int .i64 i5, .int .i64 k5, .str s5, .row o6 4 0 nk]))) := hpL
      (simp only [← List.get?Internal.eq_def]; rw [show L1.get?Internal p1 = _ from hpL]; cbv)
      ((try cbv) <;> (repeat ((with_reducible refine EW.of ?_); cbv)))
      refine bsplit (fun h7 => ?_) (fun h7 => ?_)
      · have hb := h7
        have h7 : nk < pn := lt_nt h7 hLEN rfl
        have hres : R (.ret (.int .i64 2)) L1 := hres0 _ _ _ (by decide) (hc1 h7) h1L (by omega)
        cbv
        ((try cbv) <;> (repeat ((with_reducible refine EW.of ?_); cbv)))
        exact ⟨_, L1, VSV.refl _ _ _, hres⟩
      have h7 : pn ≤ nk := lt_nf h7 hLEN rfl
      have hrr := hc2 h7
      ((try cbv) <;> (repeat ((with_reducible refine EW.of ?_); cbv)))
      obtain ⟨n1, hn1⟩ : ∃ x, x = n + 1 := ⟨_, rfl⟩
      obtain ⟨n2, hn2⟩ : ∃ x, x = n + 2 := ⟨_, rfl⟩
      obtain ⟨n3, hn3⟩ : ∃ x, x = n + 3 := ⟨_, rfl⟩
      obtain ⟨n4, hn4⟩ : ∃ x, x = n + 4 := ⟨_, rfl⟩
      rw [← hn1] at hl1
      obtain ⟨M2, hM2⟩ : ∃ M : Store, M = L1 ++ [some (AO.mp 0 [])] := ⟨_, rfl⟩
      have hl2 : M2.length = n2 := by rw [hM2]; simp [hl1]; omega
      obtain ⟨M3, hM3⟩ : ∃ M : Store, M = M2 ++ [some (AO.box 1 (.raw (Value.map none)))] := ⟨_, rfl⟩
      have hg3 : M3[n2]? = some (some (AO.box 1 (.raw (Value.map none)))) := by rw [hM3, ← hl2]; simp
      simp only [← List.length.eq_def, ← List.append.eq_def, ← List.get?Internal.eq_def]
      rw [show L1.append [some (AO.mp 0 [])] = M2 from hM2.symm, hl1]
      rw [show M2.append [some (AO.box 1 (.raw (Value.map none)))] = M3 from hM3.symm, hl2]
      rw [show M3.get?Internal n2 = _ from hg3]
      refine byes (bleM _ _ (by omega)) ?_
      refine byes (bleM _ _ (by omega)) ?_
      refine chk_iff.2 ⟨by rfl, ?_⟩
      generalize hM4 : List.set M3 _ _ = M4
      replace hM4 : M4 = M2 ++ [some (AO.box 1 (.map n1))] := by rw [← hM4, hM3, List.set_append_right (h := by omega), hl2]; simp; rfl
      have hl4 : M4.length = n3 := by rw [hM4]; simp [hl2]; omega
      obtain ⟨M5, hM5⟩ : ∃ M : Store, M = M4 ++ [some (AO.box 1 (.bool false))] := ⟨_, rfl⟩
      have hg5 : M5[n3]? = some (some (AO.box 1 (.bool false))) := by rw [hM5, ← hl4]; simp
      ((try cbv) <;> (repeat ((with_reducible refine EW.of ?_); cbv)))
      simp only [← List.length.eq_def, ← List.append.eq_def, ← List.get?Internal.eq_def]
      rw [show M4.append [some (AO.box 1 (.bool false))] = M5 from hM5.symm, hl4]
      rw [show M5.get?Internal n3 = _ from hg5]
      refine byes (bleM _ _ (by omega)) ?_
      refine chk_iff.2 ⟨by rfl, ?_⟩
      generalize hM6 : List.set M5 _ _ = M6
      replace hM6 : M6 = M5 := by rw [← hM6, hM5, List.set_append_right (h := by omega), hl4]; simp; rfl
      subst hM6
      have hl6 : M6.length = n4 := by rw [hM5]; simp [hl4]; omega
      obtain ⟨M7, hM7⟩ : ∃ M : Store, M = M6 ++ [some (AO.box 1 .nilf)] := ⟨_, rfl⟩
      have hg7 : M7[n4]? = some (some (AO.box 1 .nilf)) := by rw [hM7, ← hl6]; simp
      have hl7 : M7.length = n + 5 := by rw [hM7]; simp [hl6]; omega
      ((try cbv) <;> (repeat ((with_reducible refine EW.of ?_); cbv)))
      simp only [← List.length.eq_def, ← List.append.eq_def]
      rw [show M6.append [some (AO.box 1 .nilf)] = M7 from hM7.symm, hl6]
      refine byes (bleM _ _ (by omega)) ?_
      ((try cbv) <;> (repeat ((with_reducible refine EW.of ?_); cbv)))
      simp only [← List.get?Internal.eq_def]
      rw [show M7.get?Internal n4 = _ from hg7]
      refine chk_iff.2 ⟨by rfl, ?_⟩
      generalize hM8 : List.set M7 _ _ = M8
      replace hM8 : M8 = insX emJ0 q L [] false := by
        rw [← hM8, hM7, List.set_append_right (h := by omega), hl6, hM5, hM4, hM2, hL1]
        simp only [Nat.sub_self, List.set_cons_zero, insX, List.append_assoc, List.cons_append, List.nil_append, emJ0.nil, emJ0.cnil]
        rw [hn1, hn2, hn3, hn4, hln]
        rfl
      have hXX2 : InsX P emJ0 q d (insX emJ0 q L) (n + 5) n n1 n2 n3 n4 := by rw [hn1, hn2, hn3, hn4, hln]; exact hXX
      have hids2 := ids72 A E emJ0 hP q d _ _ _ _ _ _ _ hXX2 (m + 1) (.node i0 k0 s0 ks0) hws [] false
      unfold tcells at hids2
      rw [← hM8] at hids2
      obtain ⟨r2, hr2⟩ : ∃ r2, r2 = idF d.tree [] false (.node i0 k0 s0 ks0) := ⟨_, rfl⟩
      rw [← hr2] at hids2 hrr
      obtain ⟨s2, b2, ok2⟩ := r2
      dsimp only at hids2 hrr
      obtain ⟨M9, hM9⟩ : ∃ M, M = insX emJ0 q L s2 b2 := ⟨_, rfl⟩
      rw [← hM9] at hids2
      have hl8 : M8.length = n + 5 := by rw [hM8, hXX2.len]
      have hl9 : M9.length = n + 5 := by rw [hM9, hXX2.len]
      have h9L : ∀ y, y < L.length → M9[y]? = L[y]? := fun y hy => by rw [hM9]; exact List.getElem?_append_left hy
      ((try cbv) <;> (repeat ((with_reducible refine EW.of ?_); cbv)))
      refine TW.drawE (A := A) false [] M8 [(4, M9)] rfl (T0_ok hP) (hP ▸ follows_mixed) (by kernel_rfl) rfl (by kernel_rfl) (by cbv) (by first | kernel_rfl | cbv) rfl rfl (by rw [Bool.and_eq_true, Bool.and_eq_true]; exact ⟨rfl, by rw [Nat.ble_eq, List.nil_append]; omega, by simp only [List.all_cons, List.all_nil, Bool.and_true, List.nil_append, Nat.ble_eq]; omega⟩) ?_
      cbv
      (simp only [← List.get?Internal.eq_def]; rw [show M8.get?Internal n4 = _ from (hM8 ▸ hXX2.g4 [] false)]; cbv)
      simp only [← List.length.eq_def]
      refine byes (bleM _ _ (by omega)) ?_
      refine ⟨Ent.of (hP ▸ Try.func72) rfl, _, _, hids2, ?_⟩
      refine ⟨rfl, ?_⟩
      cases ok2 with
      | false =>
        rw [if_pos rfl] at hrr
        have hres : R (.ret (.int .i64 2)) M9 := hres0 _ _ _ (by decide) hrr h9L (by omega)
        cbv
        ((try cbv) <;> (repeat ((with_reducible refine EW.of ?_); cbv)))
        exact ⟨_, M9, VSV.refl _ _ _, hres⟩
      | true =>
      rw [if_neg (by simp)] at hrr
      cbv
      ((try cbv) <;> (repeat ((with_reducible refine EW.of ?_); cbv)))
      (simp only [← List.get?Internal.eq_def]; rw [show M9.get?Internal n3 = _ from (hM9 ▸ hXX2.g3 s2 b2)]; cbv)
      ((try cbv) <;> (repeat ((with_reducible refine EW.of ?_); cbv)))
      cases b2 with
      | true =>
        rw [if_pos rfl] at hrr
        have hres : R (.ret (.int .i64 60)) M9 := hres0 _ _ _ (by decide) hrr h9L (by omega)
        cbv
        ((try cbv) <;> (repeat ((with_reducible refine EW.of ?_); cbv)))
        exact ⟨_, M9, VSV.refl _ _ _, hres⟩
      | false =>
      rw [if_neg (by simp)] at hrr
      obtain ⟨M10, hM10⟩ : ∃ M, M = M9 ++ mvS M9 M0 := ⟨_, rfl⟩
      obtain ⟨dy, hdy⟩ : ∃ y, y = do_.sh M9.length := ⟨_, rfl⟩
      have hown2 := TC1.atL hown (by simp [tcells, purL, AV.pur, E.tree.purL]) (fun p hp => DT.ok.lt hdo p hp) M9
      rw [← hM10, ← hdy] at hown2
      have hdyo : dy.ok M10 := by rw [hdy, hM10]; exact okMoved hdo
      have hdyn : dy.foot.Nodup := by rw [hdy, DT.sh_foot]; exact List.pairwise_map.2 (hdn.imp fun hab e => hab (Nat.add_left_cancel e))
      have hdyt : dy.tree = .node i0 k0 s0 ks0 := by rw [hdy, DT.sh_tree, hdt]
      have hdyf : ∀ x ∈ dy.foot, n + 5 ≤ x := fun x hx => by
        rw [hdy, DT.sh_foot] at hx
        obtain ⟨z, _, rfl⟩ := List.mem_map.1 hx
        omega
      have h109 : ∀ y, y < M9.length → M10[y]? = M9[y]? := fun y hy => by rw [hM10]; exact List.getElem?_append_left hy
      have hl10 : n + 5 ≤ M10.length := by rw [hM10, List.length_append]; omega
      have h10L : ∀ y, y < L.length → M10[y]? = L[y]? := fun y hy => (h109 y (by omega)).trans (h9L y hy)
      have hd10 : d.ok M10 := DT.ok.same (fun y hy => h10L y (DT.ok.lt hd y hy)) hd
      have hq10 : M10[q]? = some (some (.box 4 d.cell)) := (h10L q hlq).trans hq
      have hput := putFound A hP par (m + 1) d M10 q hw hd10 hn hq10 _ e1 hfr1.symm dy hdyo hdyn (fun x hx h => by
        have := hdyf x hx
        rcases List.mem_cons.1 h with h | h
        · omega
        · have := DT.ok.lt hd x h; omega) pn (by rw [hek5]; exact h7) (by rw [hek5]; exact hkl5)
      rw [hdyt] at hput
      obtain ⟨cy, hcy⟩ : ∃ c, c = dy.cell := ⟨_, rfl⟩
      rw [← hcy] at hput hown2
      unfold tcells at hown2
      cbv
      ((try cbv) <;> (repeat ((with_reducible refine EW.of ?_); cbv)))
      refine TW.drawE (A := A) false [] M9 [(8, M10)] rfl (T0_ok hP) (hP ▸ follows_mixed) (by kernel_rfl) rfl (by kernel_rfl) (by cbv) (by first | kernel_rfl | cbv) rfl rfl (by rw [Bool.and_eq_true, Bool.and_eq_true]; exact ⟨rfl, by rw [Nat.ble_eq, List.nil_append]; omega, by simp only [List.all_cons, List.all_nil, Bool.and_true, List.nil_append, Nat.ble_eq]; omega⟩) ?_
      cbv
      simp only [← List.length.eq_def]
      refine byes (bleM _ _ (by omega)) ?_
      refine ⟨Ent.of (hP ▸ Try.func36) rfl, _, _, hown2, ?_⟩
      refine ⟨rfl, ?_⟩
      cbv
      simp only [← List.length.eq_def]
      refine byes (bleM _ _ (by omega)) ?_
      refine ⟨Ent.of (hP ▸ Try.func73) rfl, TC.mono hput ?_⟩
      rintro y L7 ⟨rfl, hl7, ⟨d7, ht7, hq7, hd7, hn7⟩, hs7⟩
      have hres : R (.ret (.int .i64 0)) L7 := by
        rw [hR, hrr]
        exact ⟨rfl, by omega, fun _ => ⟨d7, ht7, hq7, hd7, hn7⟩, fun y h1 h2 => by rw [hs7 y (by omega) h2, h10L y h1]⟩
      cbv
      ((try cbv) <;> (repeat ((with_reducible refine EW.of ?_); cbv)))
      exact ⟨_, L7, VSV.refl _ _ _, hres⟩
end Go.Proofs.Ytaieiigfheabfaa

/-! step.ways, step.Apply. -/
namespace Go.Proofs.Ytaieiigfheabfaa
open Go.Proofs.Ytaieiigfheabfaa.Tw
mutual
theorem DT.ok.arr {L : Store} : ∀ {d : DT}, d.ok L → ∀ p ∈ d.foot, ∃ els, L[p]? = some (some (.arr 4 els))
  | .node i k s o ks, hd, p, hp => by
    rcases List.mem_append.1 hp with hp | hp
    · cases o with
      | none => simp at hp
      | some q =>
        obtain rfl : p = q := by simpa using hp
        exact ⟨_, hd.1⟩
    · exact oksD.arr hd.2 p hp
theorem oksD.arr {L : Store} : ∀ {ks : List DT}, oksD L ks → ∀ p ∈ footD ks, ∃ els, L[p]? = some (some (.arr 4 els))
  | [], _, p, hp => by simp [footD] at hp
  | d :: ds, hd, p, hp => by
    rcases List.mem_append.1 hp with hp | hp
    · exact DT.ok.arr hd.1 p hp
    · exact oksD.arr hd.2 p hp
end
theorem DT.shutB (E : Em) (d : DT) (L : Store) (q : Nat) (hd : d.ok L) (hn : (q :: d.foot).Nodup) (hq : L[q]? = some (some (.box 4 d.cell))) (i k : Int) (s : ByteArray) (ks : List Tree) (ht : d.tree = .node i k s ks) :
    ∃ L' : Store, (∀ K fr, VS K fr L fr L') ∧ L'.length = L.length ∧ L'[q]? = some (some (.box 4 (.agg [.int .i64 i, .int .i64 k, .str s, .sl 4 (E.tree.l ks)]))) ∧ ∀ x, x ∉ q :: d.foot → L'[x]? = L[x]? := by
  obtain ⟨o, dks, rfl, hdk⟩ := DT.cell_node ht
  cases o with
  | none =>
    obtain rfl : dks = [] := hd.1
    subst hdk
    exact ⟨L, fun K fr => VS.refl K fr L, rfl, by rw [hq, treesD, E.tree.nil]; rfl, fun _ _ => rfl⟩
  | some p =>
    have hn1 : (p :: footD dks).Nodup := (List.nodup_cons.1 hn).2
    have hqn : q ∉ p :: footD dks := (List.nodup_cons.1 hn).1
    have hqp : q ≠ p := fun e => hqn (e ▸ List.mem_cons_self ..)
    obtain ⟨L1, hv, hl, hp, hx1⟩ := shutK E dks L p [] hd.2 hn1 (by rw [E.tree.nil]; exact hd.1)
    rw [List.nil_append, hdk] at hp
    have hq1 := (hx1 q hqn).trans hq
    have hlq := (List.getElem?_eq_some_iff.1 hq1).1
    have hlp := (List.getElem?_eq_some_iff.1 hp).1
    have hlen : dks.length = (E.tree.l ks).length := by rw [E.tree.len, ← hdk, treesD_len]
    refine ⟨(L1.set q (some (.box 4 (.agg [.int .i64 i, .int .i64 k, .str s, .sl 4 (E.tree.l ks)])))).set p none, fun K fr => VS.trans (hv K fr) (VS.freezeS (p := p) (wd := 4) (els := E.tree.l ks) (by simp [aobj, hp, AO.norm]) (by simp) (fun o ho => ?_) (fun x o' hx ho => ?_)), by simp [hl], ?_, fun y hy => ?_⟩
    · rw [List.getElem?_set_self (by simp; exact hlp)] at ho
      cases ho
    · rw [List.getElem?_set_ne (Ne.symm hx)] at ho
      by_cases hxq : x = q
      · subst hxq
        rw [List.getElem?_set_self hlq] at ho
        cases ho
        refine ⟨_, hq1, .box 4 _ _ ⟨rfl, fun j c c' hc hc' => ?_⟩⟩
        match j, hc, hc' with
        | 0, hc, hc' => cases hc; cases hc'; exact .sub (Sub.refl _)
        | 1, hc, hc' => cases hc; cases hc'; exact .sub (Sub.refl _)
        | 2, hc, hc' => cases hc; cases hc'; exact .sub (Sub.refl _)
        | 3, hc, hc' => cases hc; cases hc'; exact FSub.whole hlen
        | j + 4, hc, hc' => simp [AV.cells, DT.cell] at hc
      · rw [List.getElem?_set_ne (fun e => hxq e.symm)] at ho
        exact ⟨o', ho, .refl _⟩
    · rw [List.getElem?_set_ne (Ne.symm hqp), List.getElem?_set_self hlq]
    · have hyq : y ≠ q := fun e => hy (e ▸ List.mem_cons_self ..)
      have hyf : y ∉ p :: footD dks := fun h => hy (List.mem_cons_of_mem _ h)
      rw [List.getElem?_set_ne (fun e : p = y => hyf (by rw [← e]; exact List.mem_cons_self ..)), List.getElem?_set_ne (Ne.symm hyq)]
      exact hx1 y hyf
theorem ways34 (A : Ar) {P : Program} (hP : P = Try.prog) : TPure P 34 [] (.agg [.nilf, .func (.func 49) [] [], .func (.func 50) [] [], .func (.func 53) [] [], .func (.func 54) [] []]) := by
  refine TPure.ofE A T0 (T0_ok hP) (hP ▸ Try.func34) rfl _ rfl (by simp) ?_
  cbv
  ((try cbv) <;> (repeat ((with_reducible refine EW.of ?_); cbv)))
  refine ⟨_, rfl, by decide, ?_⟩
  cbv
  (repeat (first | exact trivial | refine And.intro (Emb.Pur _ _) ?_ | refine And.intro rfl ?_ | refine And.intro (Pur.mk rfl) ?_ | refine And.intro (Pur.mk (by assumption)) ?_))
def wayF (x : Stp) (t : Tree) : Tree × Int := if x.op = 1 then wIns x t else if x.op = 2 then wDel x t else if x.op = 3 then wMove x t else wText x t
def noT : Tree := .node 0 0 ⟨#[]⟩ []
def applyF (t : Tree) (x : Stp) : Tree × Int :=
  if smallT t = true ∧ smallT x.sub = true ∧ 1 ≤ x.op ∧ x.op ≤ 4 then (if (wayF x t).2 = 0 then ((wayF x t).1, 0) else (noT, (wayF x t).2)) else (noT, 2)
set_option maxHeartbeats 4000000 in
theorem Apply22 (A : Ar) (E : Em) (F : EmS) {P : Program} (hP : P = Try.prog) (m : Nat) (t : Tree) (hw : within (m + 1) t) (x : Stp) (hws : within (m + 1) x.sub) (hop : x.op ≤ 127) : TPure P 22 [E.tree.v t, F.l.v x] (.tup [E.tree.v (applyF t x).1, .int .i64 (applyF t x).2]) := by
  have hWs := ways34 A hP
  have hs1 := small35 A E hP (m + 1) t hw
  have hs2 := small35 A E hP (m + 1) x.sub hws
  obtain ⟨d, M0, hown, hdt, hdo, hdn⟩ := own36 A E hP (m + 1) t hw
  obtain ⟨rr, hrr⟩ : ∃ r, r = applyF t x := ⟨_, rfl⟩
  rw [← hrr]
  obtain ⟨RV, hRV⟩ : ∃ v, v = AV.tup [E.tree.v rr.1, .int .i64 rr.2] := ⟨_, rfl⟩
  rw [← hRV]
  obtain ⟨b1, hb1⟩ : ∃ b, b = smallT t := ⟨_, rfl⟩
  obtain ⟨b2, hb2⟩ : ∃ b, b = smallT x.sub := ⟨_, rfl⟩
  obtain ⟨wr, hwv⟩ : ∃ r, r = wayF x t := ⟨_, rfl⟩
  unfold applyF at hrr
  rw [← hwv] at hrr
  rw [← hb1, ← hb2] at hrr
  rw [← hb1] at hs1
  rw [← hb2] at hs2
  have hexp : ∀ op id par pl tx i k s ks, x = ⟨op, id, par, pl, tx, .node i k s ks⟩ → True := fun _ _ _ _ _ _ _ _ _ _ => trivial
  obtain ⟨op, id, par, pl, tx, ⟨i0, k0, s0, ks0⟩⟩ := x
  obtain ⟨ti, tk, ts, tks⟩ := t
  rw [F.v E, E.node]
  dsimp only at hws hs2 hop hrr
  unfold tcells at hs1 hs2 hown
  have hbadv : ∀ e, rr = (noT, e) → RV = .tup [.agg [.int .i64 0, .int .i64 0, .str ⟨#[]⟩, .sl 4 []], .int .i64 e] := fun e h => by rw [hRV, h]; unfold noT; rw [E.node, E.tree.nil]
  refine TPure.ofE A T0 (T0_ok hP) (hP ▸ Try.func22) rfl _ rfl (by simp) ?_
  cbv
  refine EW.vs [(5, .int .i64 0), (4, .ref 0 4 0 0), (3, .imm [.int .i8 op, .int .i64 id, .int .i64 par, .int .i64 pl, .str tx, .int .i64 i0, .int .i64 k0, .str s0, .sl 4 (E.tree.l ks0)]), (2, .imm [.int .i64 ti, .int .i64 tk, .str ts, .sl 4 (E.tree.l tks)])] [some (.box 4 (.agg [.int .i64 0, .int .i64 0, .str ⟨#[]⟩, .nils]))] 47 rfl ?_
  cbv
  refine And.intro (Pur.mk (by (repeat (first | exact rfl | exact Emb.purL _ _ | assumption | apply pur_cons | apply pur_sl | apply pur_slt | apply pur_agg | apply pur_tup)))) ?_
  refine And.intro (Pur.mk (by (repeat (first | exact rfl | exact Emb.purL _ _ | assumption | apply pur_cons | apply pur_sl | apply pur_slt | apply pur_agg | apply pur_tup)))) ?_
  (refine ⟨Ent.of (hP ▸ Try.func34) rfl, ?_⟩; refine TC.pureE hWs ?_; cbv; (repeat (first | exact trivial | refine And.intro (Emb.Pur _ _) ?_ | refine And.intro rfl ?_ | refine And.intro (Pur.mk rfl) ?_ | refine And.intro (Pur.mk (by assumption)) ?_)); ((try cbv) <;> (repeat ((with_reducible refine EW.of ?_); cbv))))
  ((try cbv) <;> (repeat ((with_reducible refine EW.of ?_); cbv)))
  (refine ⟨Ent.of (hP ▸ Try.func35) rfl, ?_⟩; refine TC.pureE hs1 ?_; cbv; (repeat (first | exact trivial | refine And.intro (Emb.Pur _ _) ?_ | refine And.intro rfl ?_ | refine And.intro (Pur.mk rfl) ?_ | refine And.intro (Pur.mk (by assumption)) ?_)); ((try cbv) <;> (repeat ((with_reducible refine EW.of ?_); cbv))))
  cases b1 with
  | false =>
    have hbad : ¬ (false = true ∧ b2 = true ∧ 1 ≤ op ∧ op ≤ 4) := fun h => Bool.false_ne_true h.1
    rw [if_neg hbad] at hrr
    rw [hbadv 2 hrr]
    cbv
    ((try cbv) <;> (repeat ((with_reducible refine EW.of ?_); cbv)))
    (repeat (first | exact trivial | refine And.intro (Emb.Pur _ _) ?_ | refine And.intro rfl ?_ | refine And.intro (Pur.mk rfl) ?_ | refine And.intro (Pur.mk (by assumption)) ?_))
  | true =>
  cbv
  ((try cbv) <;> (repeat ((with_reducible refine EW.of ?_); cbv)))
  (refine ⟨Ent.of (hP ▸ Try.func35) rfl, ?_⟩; refine TC.pureE hs2 ?_; cbv; (repeat (first | exact trivial | refine And.intro (Emb.Pur _ _) ?_ | refine And.intro rfl ?_ | refine And.intro (Pur.mk rfl) ?_ | refine And.intro (Pur.mk (by assumption)) ?_)); ((try cbv) <;> (repeat ((with_reducible refine EW.of ?_); cbv))))
  cases b2 with
  | false =>
    have hbad : ¬ (true = true ∧ false = true ∧ 1 ≤ op ∧ op ≤ 4) := fun h => Bool.false_ne_true h.2.1
    rw [if_neg hbad] at hrr
    rw [hbadv 2 hrr]
    cbv
    ((try cbv) <;> (repeat ((with_reducible refine EW.of ?_); cbv)))
    (repeat (first | exact trivial | refine And.intro (Emb.Pur _ _) ?_ | refine And.intro rfl ?_ | refine And.intro (Pur.mk rfl) ?_ | refine And.intro (Pur.mk (by assumption)) ?_))
  | true =>
  cbv
  ((try cbv) <;> (repeat ((with_reducible refine EW.of ?_); cbv)))
  refine bsplit (fun h => ?_) (fun h => ?_)
  · have hb := h
    have h : op < 0 := lt_t h rfl rfl
    have hbad : ¬ (true = true ∧ true = true ∧ 1 ≤ op ∧ op ≤ 4) := fun h2 => by omega
    rw [if_neg hbad] at hrr
    rw [hbadv 2 hrr]
    cbv
    ((try cbv) <;> (repeat ((with_reducible refine EW.of ?_); cbv)))
    (repeat (first | exact trivial | refine And.intro (Emb.Pur _ _) ?_ | refine And.intro rfl ?_ | refine And.intro (Pur.mk rfl) ?_ | refine And.intro (Pur.mk (by assumption)) ?_))
  have h1 : ¬ op < 0 := by have h' : A.lt op 0 = false := h; rw [A.ok_lt] at h'; simpa using h'
  cbv
  ((try cbv) <;> (repeat ((with_reducible refine EW.of ?_); cbv)))
  have hwr : A.wrap .i64 op = op := by rw [A.ok_wrap]; exact wrap_i64 (by omega) (by omega)
  refine bsplit (fun h => ?_) (fun h => ?_)
  · have h : 5 ≤ op := le_t h rfl hwr
    have hbad : ¬ (true = true ∧ true = true ∧ 1 ≤ op ∧ op ≤ 4) := fun h2 => by omega
    rw [if_neg hbad] at hrr
    rw [hbadv 2 hrr]
    cbv
    ((try cbv) <;> (repeat ((with_reducible refine EW.of ?_); cbv)))
    (repeat (first | exact trivial | refine And.intro (Emb.Pur _ _) ?_ | refine And.intro rfl ?_ | refine And.intro (Pur.mk rfl) ?_ | refine And.intro (Pur.mk (by assumption)) ?_))
  have h2 : op < 5 := le_f h rfl hwr
  cbv
  ((try cbv) <;> (repeat ((with_reducible refine EW.of ?_); cbv)))
  have hwx := hwv
  rcases (show op = 0 ∨ op = 1 ∨ op = 2 ∨ op = 3 ∨ op = 4 by omega) with h3 | h3 | h3 | h3 | h3
  · subst h3
    have hbad : ¬ (true = true ∧ true = true ∧ 1 ≤ (0 : Int) ∧ (0 : Int) ≤ 4) := fun h2 => by omega
    cbv
    refine ⟨0, rfl, by decide, _, rfl, ?_⟩
    rw [if_neg hbad] at hrr
    rw [hbadv 2 hrr]
    cbv
    ((try cbv) <;> (repeat ((with_reducible refine EW.of ?_); cbv)))
    (repeat (first | exact trivial | refine And.intro (Emb.Pur _ _) ?_ | refine And.intro rfl ?_ | refine And.intro (Pur.mk rfl) ?_ | refine And.intro (Pur.mk (by assumption)) ?_))
  · subst h3
    have hway : ∀ (L : Store) (q : Nat) (dd : DT), dd.tree = .node ti tk ts tks → dd.ok L → (q :: dd.foot).Nodup → L[q]? = some (some (.box 4 dd.cell)) → TC P 49 [.ref q 4 0 0, .imm [.int .i8 1, .int .i64 id, .int .i64 par, .int .i64 pl, .str tx, .int .i64 i0, .int .i64 k0, .str s0, .sl 4 (E.tree.l ks0)]] L (wR q dd wr L) := fun L q dd htt h1 h2 h3 => by
      have := insert49 A E hP ⟨1, id, par, pl, tx, .node i0 k0 s0 ks0⟩ m dd L q (by rw [htt]; exact hw) hws h1 h2 h3
      rw [htt] at this
      rw [hwx]
      exact this
    have hent : Ent P 49 := Ent.of (hP ▸ Try.func49) rfl
    cbv
    refine ⟨1, rfl, by decide, _, rfl, ?_⟩
    cbv
    ((try cbv) <;> (repeat ((with_reducible refine EW.of ?_); cbv)))
    rw [if_pos ⟨rfl, rfl, by decide, by decide⟩] at hrr
    have hgood : wr.2 = 0 → RV = .tup [E.tree.v wr.1, .int .i64 0] := fun h => by rw [hRV, hrr, if_pos h]
    have herr : wr.2 ≠ 0 → RV = .tup [.agg [.int .i64 0, .int .i64 0, .str ⟨#[]⟩, .sl 4 []], .int .i64 wr.2] := fun h => hbadv _ (by rw [hrr, if_neg h])
    clear hrr hRV hbadv
    cbv
    ((try cbv) <;> (repeat ((with_reducible refine EW.of ?_); cbv)))
    obtain ⟨LL, hLL⟩ : ∃ M : Store, M = [some (AO.box 4 (.agg [.int .i64 0, .int .i64 0, .str ⟨⟨[]⟩⟩, .nils])), some (AO.box 5 (.agg [.nilf, .func (.func 49) [] [], .func (.func 50) [] [], .func (.func 53) [] [], .func (.func 54) [] []]))] := ⟨_, rfl⟩
    have hown2 := TC1.atL hown (Pur.mk (by (repeat (first | exact rfl | exact Emb.purL _ _ | assumption | apply pur_cons | apply pur_sl | apply pur_slt | apply pur_agg | apply pur_tup)))).h (fun p hp => DT.ok.lt hdo p hp) LL
    have hll : LL.length = 2 := by rw [hLL]; rfl
    obtain ⟨L10, hL10⟩ : ∃ M : Store, M = LL ++ mvS LL M0 := ⟨_, rfl⟩
    obtain ⟨dt, hdt2⟩ : ∃ y, y = d.sh LL.length := ⟨_, rfl⟩
    have hdto : dt.ok L10 := by rw [hdt2, hL10]; exact okMoved hdo
    rw [← hL10, ← hdt2] at hown2
    have hdtn : dt.foot.Nodup := by rw [hdt2, DT.sh_foot]; exact List.pairwise_map.2 (hdn.imp fun hab e => hab (Nat.add_left_cancel e))
    have hdtt : dt.tree = .node ti tk ts tks := by rw [hdt2, DT.sh_tree, hdt]
    have hdtf : ∀ x ∈ dt.foot, 2 ≤ x := fun x hx => by
      rw [hdt2, DT.sh_foot] at hx
      obtain ⟨z, _, rfl⟩ := List.mem_map.1 hx
      omega
    have hb0 : L10[0]? = some (some (.box 4 (.agg [.int .i64 0, .int .i64 0, .str ⟨⟨[]⟩⟩, .nils]))) := by rw [hL10, hLL]; rfl
    have hb1 : L10[1]? = some (some (.box 5 (.agg [.nilf, .func (.func 49) [] [], .func (.func 50) [] [], .func (.func 53) [] [], .func (.func 54) [] []]))) := by rw [hL10, hLL]; rfl
    have hl10 : 2 ≤ L10.length := by rw [hL10, List.length_append, hll]; omega
    rw [hLL] at hown2
    clear hL10 hdt2 hLL hll
    obtain ⟨dto, dks, rfl, hdk⟩ := DT.cell_node hdtt
    obtain ⟨kid, hkid⟩ : ∃ kid, kid = kidAV dks.length dto := ⟨_, rfl⟩
    have hdc : (DT.node ti tk ts dto dks).cell = .agg [.int .i64 ti, .int .i64 tk, .str ts, kid] := by rw [hkid]; rfl
    obtain ⟨dt, hdt2⟩ : ∃ y, y = DT.node ti tk ts dto dks := ⟨_, rfl⟩
    rw [← hdt2] at hdto hdtn hdtt hdtf hdc hown2
    rw [hdc] at hown2
    obtain ⟨n, hn⟩ : ∃ n, n = L10.length := ⟨_, rfl⟩
    obtain ⟨L11, hL11⟩ : ∃ M : Store, M = L10 ++ [some (AO.box 4 (.agg [.int .i64 0, .int .i64 0, .str ⟨⟨[]⟩⟩, .nils]))] := ⟨_, rfl⟩
    have hg11 : L11[n]? = some (some (.box 4 (.agg [.int .i64 0, .int .i64 0, .str ⟨⟨[]⟩⟩, .nils]))) := by rw [hL11, hn]; simp
    have hl11 : L11.length = n + 1 := by rw [hL11, hn]; simp
    refine ⟨Ent.of (hP ▸ Try.func36) rfl, TC.mono hown2 ?_⟩
    rintro y _ ⟨rfl, e⟩
    rw [e]
    cbv
    ((try cbv) <;> (repeat ((with_reducible refine EW.of ?_); cbv)))
    simp only [← List.length.eq_def, ← List.append.eq_def, ← List.get?Internal.eq_def]
    rw [show L10.append [some (AO.box 4 (.agg [.int .i64 0, .int .i64 0, .str ⟨⟨[]⟩⟩, .nils]))] = L11 from hL11.symm, ← hn]
    rw [show L11.get?Internal n = _ from hg11]
    refine chk_iff.2 ⟨by rw [hkid]; cases dto <;> rfl, ?_⟩
    generalize hL12 : List.set L11 n _ = L12
    replace hL12 : L12 = L10 ++ [some (AO.box 4 (.agg [.int .i64 ti, .int .i64 tk, .str ts, kid]))] := by rw [← hL12, hL11, List.set_append_right (h := by omega), hn]; simp; rfl
    have hg12 : L12[n]? = some (some (.box 4 dt.cell)) := by rw [hL12, hn, hdc]; simp
    have hl12 : L12.length = n + 1 := by rw [hL12, hn]; simp
    have h1210 : ∀ y, y < n → L12[y]? = L10[y]? := fun y hy => by rw [hL12, List.getElem?_append_left (by omega)]
    have hlt := DT.ok.lt hdto
    have hd12 : dt.ok L12 := DT.ok.same (fun y hy => h1210 y (by rw [hn]; exact hlt y hy)) hdto
    have hn12 : (n :: dt.foot).Nodup := List.nodup_cons.2 ⟨fun h => by have := hlt n h; omega, hdtn⟩
    have hcall := hway L12 n dt hdtt hd12 hn12 hg12
    ((try cbv) <;> (repeat ((with_reducible refine EW.of ?_); cbv)))
    refine ⟨1, rfl, by decide, _, rfl, ?_⟩
    cbv
    (simp only [← List.get?Internal.eq_def]; rw [show L12.get?Internal 1 = _ from ((h1210 1 (by omega)).trans hb1)]; cbv)
    refine ⟨hent, TC.mono hcall ?_⟩
    rintro y L13 ⟨rfl, hl13, hok, hs13⟩
    have h013 : ∀ y, y < 2 → L13[y]? = L10[y]? := fun y hy => by
      rw [hs13 y (by omega) (fun h => by
        rcases List.mem_cons.1 h with h | h
        · omega
        · have := hdtf y h; omega), h1210 y (by omega)]
    have hz0 := (h013 0 (by omega)).trans hb0
    obtain ⟨we, hwe⟩ : ∃ e, e = wr.2 := ⟨_, rfl⟩
    rw [← hwe] at hok hgood herr ⊢
    cbv
    ((try cbv) <;> (repeat ((with_reducible refine EW.of ?_); cbv)))
    refine bsplit (fun h => ?_) (fun h => ?_)
    · have h : we ≠ 0 := by
        have h' : A.bnot (A.eq we 0) = true := h
        rw [A.ok_bnot, A.ok_eq] at h'
        simpa using h'
      rw [herr h]
      ((try cbv) <;> (repeat ((with_reducible refine EW.of ?_); cbv)))
      simp only [← List.get?Internal.eq_def]
      rw [show L13.get?Internal 0 = _ from hz0]
      refine chk_iff.2 ⟨by rfl, ?_⟩
      generalize hL14 : List.set L13 0 _ = L14
      have hg14 : L14[0]? = some (some (.box 4 (.agg [.int .i64 0, .int .i64 0, .str ⟨⟨[]⟩⟩, .nils]))) := by rw [← hL14, List.getElem?_set_self (by omega)]; rfl
      ((try cbv) <;> (repeat ((with_reducible refine EW.of ?_); cbv)))
      (simp only [← List.get?Internal.eq_def]; rw [show L14.get?Internal 0 = _ from hg14]; cbv)
      (repeat (first | exact trivial | refine And.intro (Emb.Pur _ _) ?_ | refine And.intro rfl ?_ | refine And.intro (Pur.mk rfl) ?_ | refine And.intro (Pur.mk (by assumption)) ?_))
    have h : we = 0 := by
      have h' : A.bnot (A.eq we 0) = false := h
      rw [A.ok_bnot, A.ok_eq] at h'
      simpa using h'
    rw [hgood h]
    obtain ⟨d13, htr, hb13, hok13, hnd13⟩ := hok h
    obtain ⟨ri, rk, rs, rks, hri⟩ : ∃ i k s ks, wr.1 = .node i k s ks := by cases wr.1; exact ⟨_, _, _, _, rfl⟩
    rw [hri] at htr ⊢
    rw [E.node]
    obtain ⟨L14, hv14, hl14, hg14, hs14⟩ := DT.shutB E d13 L13 n hok13 hnd13 hb13 ri rk rs rks htr
    refine EW.vsC (hv14 _ _) ?_
    have hz14 := (hs14 0 (fun h => by
      rcases List.mem_cons.1 h with h | h
      · omega
      · obtain ⟨els, he⟩ := DT.ok.arr hok13 0 h
        rw [hz0] at he
        cases he)).trans hz0
    ((try cbv) <;> (repeat ((with_reducible refine EW.of ?_); cbv)))
    (simp only [← List.get?Internal.eq_def]; rw [show L14.get?Internal n = _ from hg14]; cbv)
    simp only [← List.get?Internal.eq_def]
    rw [show L14.get?Internal 0 = _ from hz14]
    refine chk_iff.2 ⟨by rfl, ?_⟩
    generalize hL15 : List.set L14 0 _ = L15
    have hg15 : L15[0]? = some (some (.box 4 (.agg [.int .i64 ri, .int .i64 rk, .str rs, .sl 4 (E.tree.l rks)]))) := by rw [← hL15, List.getElem?_set_self (by omega)]; rfl
    ((try cbv) <;> (repeat ((with_reducible refine EW.of ?_); cbv)))
    (simp only [← List.get?Internal.eq_def]; rw [show L15.get?Internal 0 = _ from hg15]; cbv)
    (repeat (first | exact trivial | refine And.intro (Emb.Pur _ _) ?_ | refine And.intro rfl ?_ | refine And.intro (Pur.mk rfl) ?_ | refine And.intro (Pur.mk (by assumption)) ?_))
  · subst h3
    have hway : ∀ (L : Store) (q : Nat) (dd : DT), dd.tree = .node ti tk ts tks → dd.ok L → (q :: dd.foot).Nodup → L[q]? = some (some (.box 4 dd.cell)) → TC P 50 [.ref q 4 0 0, .imm [.int .i8 2, .int .i64 id, .int .i64 par, .int .i64 pl, .str tx, .int .i64 i0, .int .i64 k0, .str s0, .sl 4 (E.tree.l ks0)]] L (wR q dd wr L) := fun L q dd htt h1 h2 h3 => by
      have := del50 A E hP ⟨2, id, par, pl, tx, .node i0 k0 s0 ks0⟩ m dd L q (by rw [htt]; exact hw) h1 h2 h3
      rw [htt] at this
      rw [hwx]
      exact this
    have hent : Ent P 50 := Ent.of (hP ▸ Try.func50) rfl
    cbv
    refine ⟨2, rfl, by decide, _, rfl, ?_⟩
    cbv
    ((try cbv) <;> (repeat ((with_reducible refine EW.of ?_); cbv)))
    rw [if_pos ⟨rfl, rfl, by decide, by decide⟩] at hrr
    have hgood : wr.2 = 0 → RV = .tup [E.tree.v wr.1, .int .i64 0] := fun h => by rw [hRV, hrr, if_pos h]
    have herr : wr.2 ≠ 0 → RV = .tup [.agg [.int .i64 0, .int .i64 0, .str ⟨#[]⟩, .sl 4 []], .int .i64 wr.2] := fun h => hbadv _ (by rw [hrr, if_neg h])
    clear hrr hRV hbadv
    cbv
    ((try cbv) <;> (repeat ((with_reducible refine EW.of ?_); cbv)))
    obtain ⟨LL, hLL⟩ : ∃ M : Store, M = [some (AO.box 4 (.agg [.int .i64 0, .int .i64 0, .str ⟨⟨[]⟩⟩, .nils])), some (AO.box 5 (.agg [.nilf, .func (.func 49) [] [], .func (.func 50) [] [], .func (.func 53) [] [], .func (.func 54) [] []]))] := ⟨_, rfl⟩
    have hown2 := TC1.atL hown (Pur.mk (by (repeat (first | exact rfl | exact Emb.purL _ _ | assumption | apply pur_cons | apply pur_sl | apply pur_slt | apply pur_agg | apply pur_tup)))).h (fun p hp => DT.ok.lt hdo p hp) LL
    have hll : LL.length = 2 := by rw [hLL]; rfl
    obtain ⟨L10, hL10⟩ : ∃ M : Store, M = LL ++ mvS LL M0 := ⟨_, rfl⟩
    obtain ⟨dt, hdt2⟩ : ∃ y, y = d.sh LL.length := ⟨_, rfl⟩
    have hdto : dt.ok L10 := by rw [hdt2, hL10]; exact okMoved hdo
    rw [← hL10, ← hdt2] at hown2
    have hdtn : dt.foot.Nodup := by rw [hdt2, DT.sh_foot]; exact List.pairwise_map.2 (hdn.imp fun hab e => hab (Nat.add_left_cancel e))
    have hdtt : dt.tree = .node ti tk ts tks := by rw [hdt2, DT.sh_tree, hdt]
    have hdtf : ∀ x ∈ dt.foot, 2 ≤ x := fun x hx => by
      rw [hdt2, DT.sh_foot] at hx
      obtain ⟨z, _, rfl⟩ := List.mem_map.1 hx
      omega
    have hb0 : L10[0]? = some (some (.box 4 (.agg [.int .i64 0, .int .i64 0, .str ⟨⟨[]⟩⟩, .nils]))) := by rw [hL10, hLL]; rfl
    have hb1 : L10[1]? = some (some (.box 5 (.agg [.nilf, .func (.func 49) [] [], .func (.func 50) [] [], .func (.func 53) [] [], .func (.func 54) [] []]))) := by rw [hL10, hLL]; rfl
    have hl10 : 2 ≤ L10.length := by rw [hL10, List.length_append, hll]; omega
    rw [hLL] at hown2
    clear hL10 hdt2 hLL hll
    obtain ⟨dto, dks, rfl, hdk⟩ := DT.cell_node hdtt
    obtain ⟨kid, hkid⟩ : ∃ kid, kid = kidAV dks.length dto := ⟨_, rfl⟩
    have hdc : (DT.node ti tk ts dto dks).cell = .agg [.int .i64 ti, .int .i64 tk, .str ts, kid] := by rw [hkid]; rfl
    obtain ⟨dt, hdt2⟩ : ∃ y, y = DT.node ti tk ts dto dks := ⟨_, rfl⟩
    rw [← hdt2] at hdto hdtn hdtt hdtf hdc hown2
    rw [hdc] at hown2
    obtain ⟨n, hn⟩ : ∃ n, n = L10.length := ⟨_, rfl⟩
    obtain ⟨L11, hL11⟩ : ∃ M : Store, M = L10 ++ [some (AO.box 4 (.agg [.int .i64 0, .int .i64 0, .str ⟨⟨[]⟩⟩, .nils]))] := ⟨_, rfl⟩
    have hg11 : L11[n]? = some (some (.box 4 (.agg [.int .i64 0, .int .i64 0, .str ⟨⟨[]⟩⟩, .nils]))) := by rw [hL11, hn]; simp
    have hl11 : L11.length = n + 1 := by rw [hL11, hn]; simp
    refine ⟨Ent.of (hP ▸ Try.func36) rfl, TC.mono hown2 ?_⟩
    rintro y _ ⟨rfl, e⟩
    rw [e]
    cbv
    ((try cbv) <;> (repeat ((with_reducible refine EW.of ?_); cbv)))
    simp only [← List.length.eq_def, ← List.append.eq_def, ← List.get?Internal.eq_def]
    rw [show L10.append [some (AO.box 4 (.agg [.int .i64 0, .int .i64 0, .str ⟨⟨[]⟩⟩, .nils]))] = L11 from hL11.symm, ← hn]
    rw [show L11.get?Internal n = _ from hg11]
    refine chk_iff.2 ⟨by rw [hkid]; cases dto <;> rfl, ?_⟩
    generalize hL12 : List.set L11 n _ = L12
    replace hL12 : L12 = L10 ++ [some (AO.box 4 (.agg [.int .i64 ti, .int .i64 tk, .str ts, kid]))] := by rw [← hL12, hL11, List.set_append_right (h := by omega), hn]; simp; rfl
    have hg12 : L12[n]? = some (some (.box 4 dt.cell)) := by rw [hL12, hn, hdc]; simp
    have hl12 : L12.length = n + 1 := by rw [hL12, hn]; simp
    have h1210 : ∀ y, y < n → L12[y]? = L10[y]? := fun y hy => by rw [hL12, List.getElem?_append_left (by omega)]
    have hlt := DT.ok.lt hdto
    have hd12 : dt.ok L12 := DT.ok.same (fun y hy => h1210 y (by rw [hn]; exact hlt y hy)) hdto
    have hn12 : (n :: dt.foot).Nodup := List.nodup_cons.2 ⟨fun h => by have := hlt n h; omega, hdtn⟩
    have hcall := hway L12 n dt hdtt hd12 hn12 hg12
    ((try cbv) <;> (repeat ((with_reducible refine EW.of ?_); cbv)))
    refine ⟨2, rfl, by decide, _, rfl, ?_⟩
    cbv
    (simp only [← List.get?Internal.eq_def]; rw [show L12.get?Internal 1 = _ from ((h1210 1 (by omega)).trans hb1)]; cbv)
    refine ⟨hent, TC.mono hcall ?_⟩
    rintro y L13 ⟨rfl, hl13, hok, hs13⟩
    have h013 : ∀ y, y < 2 → L13[y]? = L10[y]? := fun y hy => by
      rw [hs13 y (by omega) (fun h => by
        rcases List.mem_cons.1 h with h | h
        · omega
        · have := hdtf y h; omega), h1210 y (by omega)]
    have hz0 := (h013 0 (by omega)).trans hb0
    obtain ⟨we, hwe⟩ : ∃ e, e = wr.2 := ⟨_, rfl⟩
    rw [← hwe] at hok hgood herr ⊢
    cbv
    ((try cbv) <;> (repeat ((with_reducible refine EW.of ?_); cbv)))
    refine bsplit (fun h => ?_) (fun h => ?_)
    · have h : we ≠ 0 := by
        have h' : A.bnot (A.eq we 0) = true := h
        rw [A.ok_bnot, A.ok_eq] at h'
        simpa using h'
      rw [herr h]
      ((try cbv) <;> (repeat ((with_reducible refine EW.of ?_); cbv)))
      simp only [← List.get?Internal.eq_def]
      rw [show L13.get?Internal 0 = _ from hz0]
      refine chk_iff.2 ⟨by rfl, ?_⟩
      generalize hL14 : List.set L13 0 _ = L14
      have hg14 : L14[0]? = some (some (.box 4 (.agg [.int .i64 0, .int .i64 0, .str ⟨⟨[]⟩⟩, .nils]))) := by rw [← hL14, List.getElem?_set_self (by omega)]; rfl
      ((try cbv) <;> (repeat ((with_reducible refine EW.of ?_); cbv)))
      (simp only [← List.get?Internal.eq_def]; rw [show L14.get?Internal 0 = _ from hg14]; cbv)
      (repeat (first | exact trivial | refine And.intro (Emb.Pur _ _) ?_ | refine And.intro rfl ?_ | refine And.intro (Pur.mk rfl) ?_ | refine And.intro (Pur.mk (by assumption)) ?_))
    have h : we = 0 := by
      have h' : A.bnot (A.eq we 0) = false := h
      rw [A.ok_bnot, A.ok_eq] at h'
      simpa using h'
    rw [hgood h]
    obtain ⟨d13, htr, hb13, hok13, hnd13⟩ := hok h
    obtain ⟨ri, rk, rs, rks, hri⟩ : ∃ i k s ks, wr.1 = .node i k s ks := by cases wr.1; exact ⟨_, _, _, _, rfl⟩
    rw [hri] at htr ⊢
    rw [E.node]
    obtain ⟨L14, hv14, hl14, hg14, hs14⟩ := DT.shutB E d13 L13 n hok13 hnd13 hb13 ri rk rs rks htr
    refine EW.vsC (hv14 _ _) ?_
    have hz14 := (hs14 0 (fun h => by
      rcases List.mem_cons.1 h with h | h
      · omega
      · obtain ⟨els, he⟩ := DT.ok.arr hok13 0 h
        rw [hz0] at he
        cases he)).trans hz0
    ((try cbv) <;> (repeat ((with_reducible refine EW.of ?_); cbv)))
    (simp only [← List.get?Internal.eq_def]; rw [show L14.get?Internal n = _ from hg14]; cbv)
    simp only [← List.get?Internal.eq_def]
    rw [show L14.get?Internal 0 = _ from hz14]
    refine chk_iff.2 ⟨by rfl, ?_⟩
    generalize hL15 : List.set L14 0 _ = L15
    have hg15 : L15[0]? = some (some (.box 4 (.agg [.int .i64 ri, .int .i64 rk, .str rs, .sl 4 (E.tree.l rks)]))) := by rw [← hL15, List.getElem?_set_self (by omega)]; rfl
    ((try cbv) <;> (repeat ((with_reducible refine EW.of ?_); cbv)))
    (simp only [← List.get?Internal.eq_def]; rw [show L15.get?Internal 0 = _ from hg15]; cbv)
    (repeat (first | exact trivial | refine And.intro (Emb.Pur _ _) ?_ | refine And.intro rfl ?_ | refine And.intro (Pur.mk rfl) ?_ | refine And.intro (Pur.mk (by assumption)) ?_))
  · subst h3
    have hway : ∀ (L : Store) (q : Nat) (dd : DT), dd.tree = .node ti tk ts tks → dd.ok L → (q :: dd.foot).Nodup → L[q]? = some (some (.box 4 dd.cell)) → TC P 53 [.ref q 4 0 0, .imm [.int .i8 3, .int .i64 id, .int .i64 par, .int .i64 pl, .str tx, .int .i64 i0, .int .i64 k0, .str s0, .sl 4 (E.tree.l ks0)]] L (wR q dd wr L) := fun L q dd htt h1 h2 h3 => by
      have := move53 A E hP ⟨3, id, par, pl, tx, .node i0 k0 s0 ks0⟩ m dd L q (by rw [htt]; exact hw) h1 h2 h3
      rw [htt] at this
      rw [hwx]
      exact this
    have hent : Ent P 53 := Ent.of (hP ▸ Try.func53) rfl
    cbv
    refine ⟨3, rfl, by decide, _, rfl, ?_⟩
    cbv
    ((try cbv) <;> (repeat ((with_reducible refine EW.of ?_); cbv)))
    rw [if_pos ⟨rfl, rfl, by decide, by decide⟩] at hrr
    have hgood : wr.2 = 0 → RV = .tup [E.tree.v wr.1, .int .i64 0] := fun h => by rw [hRV, hrr, if_pos h]
    have herr : wr.2 ≠ 0 → RV = .tup [.agg [.int .i64 0, .int .i64 0, .str ⟨#[]⟩, .sl 4 []], .int .i64 wr.2] := fun h => hbadv _ (by rw [hrr, if_neg h])
    clear hrr hRV hbadv
    cbv
    ((try cbv) <;> (repeat ((with_reducible refine EW.of ?_); cbv)))
    obtain ⟨LL, hLL⟩ : ∃ M : Store, M = [some (AO.box 4 (.agg [.int .i64 0, .int .i64 0, .str ⟨⟨[]⟩⟩, .nils])), some (AO.box 5 (.agg [.nilf, .func (.func 49) [] [], .func (.func 50) [] [], .func (.func 53) [] [], .func (.func 54) [] []]))] := ⟨_, rfl⟩
    have hown2 := TC1.atL hown (Pur.mk (by (repeat (first | exact rfl | exact Emb.purL _ _ | assumption | apply pur_cons | apply pur_sl | apply pur_slt | apply pur_agg | apply pur_tup)))).h (fun p hp => DT.ok.lt hdo p hp) LL
    have hll : LL.length = 2 := by rw [hLL]; rfl
    obtain ⟨L10, hL10⟩ : ∃ M : Store, M = LL ++ mvS LL M0 := ⟨_, rfl⟩
    obtain ⟨dt, hdt2⟩ : ∃ y, y = d.sh LL.length := ⟨_, rfl⟩
    have hdto : dt.ok L10 := by rw [hdt2, hL10]; exact okMoved hdo
    rw [← hL10, ← hdt2] at hown2
    have hdtn : dt.foot.Nodup := by rw [hdt2, DT.sh_foot]; exact List.pairwise_map.2 (hdn.imp fun hab e => hab (Nat.add_left_cancel e))
    have hdtt : dt.tree = .node ti tk ts tks := by rw [hdt2, DT.sh_tree, hdt]
    have hdtf : ∀ x ∈ dt.foot, 2 ≤ x := fun x hx => by
      rw [hdt2, DT.sh_foot] at hx
      obtain ⟨z, _, rfl⟩ := List.mem_map.1 hx
      omega
    have hb0 : L10[0]? = some (some (.box 4 (.agg [.int .i64 0, .int .i64 0, .str ⟨⟨[]⟩⟩, .nils]))) := by rw [hL10, hLL]; rfl
    have hb1 : L10[1]? = some (some (.box 5 (.agg [.nilf, .func (.func 49) [] [], .func (.func 50) [] [], .func (.func 53) [] [], .func (.func 54) [] []]))) := by rw [hL10, hLL]; rfl
    have hl10 : 2 ≤ L10.length := by rw [hL10, List.length_append, hll]; omega
    rw [hLL] at hown2
    clear hL10 hdt2 hLL hll
    obtain ⟨dto, dks, rfl, hdk⟩ := DT.cell_node hdtt
    obtain ⟨kid, hkid⟩ : ∃ kid, kid = kidAV dks.length dto := ⟨_, rfl⟩
    have hdc : (DT.node ti tk ts dto dks).cell = .agg [.int .i64 ti, .int .i64 tk, .str ts, kid] := by rw [hkid]; rfl
    obtain ⟨dt, hdt2⟩ : ∃ y, y = DT.node ti tk ts dto dks := ⟨_, rfl⟩
    rw [← hdt2] at hdto hdtn hdtt hdtf hdc hown2
    rw [hdc] at hown2
    obtain ⟨n, hn⟩ : ∃ n, n = L10.length := ⟨_, rfl⟩
    obtain ⟨L11, hL11⟩ : ∃ M : Store, M = L10 ++ [some (AO.box 4 (.agg [.int .i64 0, .int .i64 0, .str ⟨⟨[]⟩⟩, .nils]))] := ⟨_, rfl⟩
    have hg11 : L11[n]? = some (some (.box 4 (.agg [.int .i64 0, .int .i64 0, .str ⟨⟨[]⟩⟩, .nils]))) := by rw [hL11, hn]; simp
    have hl11 : L11.length = n + 1 := by rw [hL11, hn]; simp
    refine ⟨Ent.of (hP ▸ Try.func36) rfl, TC.mono hown2 ?_⟩
    rintro y _ ⟨rfl, e⟩
    rw [e]
    cbv
    ((try cbv) <;> (repeat ((with_reducible refine EW.of ?_); cbv)))
    simp only [← List.length.eq_def, ← List.append.eq_def, ← List.get?Internal.eq_def]
    rw [show L10.append [some (AO.box 4 (.agg [.int .i64 0, .int .i64 0, .str ⟨⟨[]⟩⟩, .nils]))] = L11 from hL11.symm, ← hn]
    rw [show L11.get?Internal n = _ from hg11]
    refine chk_iff.2 ⟨by rw [hkid]; cases dto <;> rfl, ?_⟩
    generalize hL12 : List.set L11 n _ = L12
    replace hL12 : L12 = L10 ++ [some (AO.box 4 (.agg [.int .i64 ti, .int .i64 tk, .str ts, kid]))] := by rw [← hL12, hL11, List.set_append_right (h := by omega), hn]; simp; rfl
    have hg12 : L12[n]? = some (some (.box 4 dt.cell)) := by rw [hL12, hn, hdc]; simp
    have hl12 : L12.length = n + 1 := by rw [hL12, hn]; simp
    have h1210 : ∀ y, y < n → L12[y]? = L10[y]? := fun y hy => by rw [hL12, List.getElem?_append_left (by omega)]
    have hlt := DT.ok.lt hdto
    have hd12 : dt.ok L12 := DT.ok.same (fun y hy => h1210 y (by rw [hn]; exact hlt y hy)) hdto
    have hn12 : (n :: dt.foot).Nodup := List.nodup_cons.2 ⟨fun h => by have := hlt n h; omega, hdtn⟩
    have hcall := hway L12 n dt hdtt hd12 hn12 hg12
    ((try cbv) <;> (repeat ((with_reducible refine EW.of ?_); cbv)))
    refine ⟨3, rfl, by decide, _, rfl, ?_⟩
    cbv
    (simp only [← List.get?Internal.eq_def]; rw [show L12.get?Internal 1 = _ from ((h1210 1 (by omega)).trans hb1)]; cbv)
    refine ⟨hent, TC.mono hcall ?_⟩
    rintro y L13 ⟨rfl, hl13, hok, hs13⟩
    have h013 : ∀ y, y < 2 → L13[y]? = L10[y]? := fun y hy => by
      rw [hs13 y (by omega) (fun h => by
        rcases List.mem_cons.1 h with h | h
        · omega
        · have := hdtf y h; omega), h1210 y (by omega)]
    have hz0 := (h013 0 (by omega)).trans hb0
    obtain ⟨we, hwe⟩ : ∃ e, e = wr.2 := ⟨_, rfl⟩
    rw [← hwe] at hok hgood herr ⊢
    cbv
    ((try cbv) <;> (repeat ((with_reducible refine EW.of ?_); cbv)))
    refine bsplit (fun h => ?_) (fun h => ?_)
    · have h : we ≠ 0 := by
        have h' : A.bnot (A.eq we 0) = true := h
        rw [A.ok_bnot, A.ok_eq] at h'
        simpa using h'
      rw [herr h]
      ((try cbv) <;> (repeat ((with_reducible refine EW.of ?_); cbv)))
      simp only [← List.get?Internal.eq_def]
      rw [show L13.get?Internal 0 = _ from hz0]
      refine chk_iff.2 ⟨by rfl, ?_⟩
      generalize hL14 : List.set L13 0 _ = L14
      have hg14 : L14[0]? = some (some (.box 4 (.agg [.int .i64 0, .int .i64 0, .str ⟨⟨[]⟩⟩, .nils]))) := by rw [← hL14, List.getElem?_set_self (by omega)]; rfl
      ((try cbv) <;> (repeat ((with_reducible refine EW.of ?_); cbv)))
      (simp only [← List.get?Internal.eq_def]; rw [show L14.get?Internal 0 = _ from hg14]; cbv)
      (repeat (first | exact trivial | refine And.intro (Emb.Pur _ _) ?_ | refine And.intro rfl ?_ | refine And.intro (Pur.mk rfl) ?_ | refine And.intro (Pur.mk (by assumption)) ?_))
    have h : we = 0 := by
      have h' : A.bnot (A.eq we 0) = false := h
      rw [A.ok_bnot, A.ok_eq] at h'
      simpa using h'
    rw [hgood h]
    obtain ⟨d13, htr, hb13, hok13, hnd13⟩ := hok h
    obtain ⟨ri, rk, rs, rks, hri⟩ : ∃ i k s ks, wr.1 = .node i k s ks := by cases wr.1; exact ⟨_, _, _, _, rfl⟩
    rw [hri] at htr ⊢
    rw [E.node]
    obtain ⟨L14, hv14, hl14, hg14, hs14⟩ := DT.shutB E d13 L13 n hok13 hnd13 hb13 ri rk rs rks htr
    refine EW.vsC (hv14 _ _) ?_
    have hz14 := (hs14 0 (fun h => by
      rcases List.mem_cons.1 h with h | h
      · omega
      · obtain ⟨els, he⟩ := DT.ok.arr hok13 0 h
        rw [hz0] at he
        cases he)).trans hz0
    ((try cbv) <;> (repeat ((with_reducible refine EW.of ?_); cbv)))
    (simp only [← List.get?Internal.eq_def]; rw [show L14.get?Internal n = _ from hg14]; cbv)
    simp only [← List.get?Internal.eq_def]
    rw [show L14.get?Internal 0 = _ from hz14]
    refine chk_iff.2 ⟨by rfl, ?_⟩
    generalize hL15 : List.set L14 0 _ = L15
    have hg15 : L15[0]? = some (some (.box 4 (.agg [.int .i64 ri, .int .i64 rk, .str rs, .sl 4 (E.tree.l rks)]))) := by rw [← hL15, List.getElem?_set_self (by omega)]; rfl
    ((try cbv) <;> (repeat ((with_reducible refine EW.of ?_); cbv)))
    (simp only [← List.get?Internal.eq_def]; rw [show L15.get?Internal 0 = _ from hg15]; cbv)
    (repeat (first | exact trivial | refine And.intro (Emb.Pur _ _) ?_ | refine And.intro rfl ?_ | refine And.intro (Pur.mk rfl) ?_ | refine And.intro (Pur.mk (by assumption)) ?_))
  · subst h3
    have hway : ∀ (L : Store) (q : Nat) (dd : DT), dd.tree = .node ti tk ts tks → dd.ok L → (q :: dd.foot).Nodup → L[q]? = some (some (.box 4 dd.cell)) → TC P 54 [.ref q 4 0 0, .imm [.int .i8 4, .int .i64 id, .int .i64 par, .int .i64 pl, .str tx, .int .i64 i0, .int .i64 k0, .str s0, .sl 4 (E.tree.l ks0)]] L (wR q dd wr L) := fun L q dd htt h1 h2 h3 => by
      have := text54 A E hP ⟨4, id, par, pl, tx, .node i0 k0 s0 ks0⟩ (m + 1) dd L q (by rw [htt]; exact hw) h1 h2 h3
      rw [htt] at this
      rw [hwx]
      exact this
    have hent : Ent P 54 := Ent.of (hP ▸ Try.func54) rfl
    cbv
    refine ⟨4, rfl, by decide, _, rfl, ?_⟩
    cbv
    ((try cbv) <;> (repeat ((with_reducible refine EW.of ?_); cbv)))
    rw [if_pos ⟨rfl, rfl, by decide, by decide⟩] at hrr
    have hgood : wr.2 = 0 → RV = .tup [E.tree.v wr.1, .int .i64 0] := fun h => by rw [hRV, hrr, if_pos h]
    have herr : wr.2 ≠ 0 → RV = .tup [.agg [.int .i64 0, .int .i64 0, .str ⟨#[]⟩, .sl 4 []], .int .i64 wr.2] := fun h => hbadv _ (by rw [hrr, if_neg h])
    clear hrr hRV hbadv
    cbv
    ((try cbv) <;> (repeat ((with_reducible refine EW.of ?_); cbv)))
    obtain ⟨LL, hLL⟩ : ∃ M : Store, M = [some (AO.box 4 (.agg [.int .i64 0, .int .i64 0, .str ⟨⟨[]⟩⟩, .nils])), some (AO.box 5 (.agg [.nilf, .func (.func 49) [] [], .func (.func 50) [] [], .func (.func 53) [] [], .func (.func 54) [] []]))] := ⟨_, rfl⟩
    have hown2 := TC1.atL hown (Pur.mk (by (repeat (first | exact rfl | exact Emb.purL _ _ | assumption | apply pur_cons | apply pur_sl | apply pur_slt | apply pur_agg | apply pur_tup)))).h (fun p hp => DT.ok.lt hdo p hp) LL
    have hll : LL.length = 2 := by rw [hLL]; rfl
    obtain ⟨L10, hL10⟩ : ∃ M : Store, M = LL ++ mvS LL M0 := ⟨_, rfl⟩
    obtain ⟨dt, hdt2⟩ : ∃ y, y = d.sh LL.length := ⟨_, rfl⟩
    have hdto : dt.ok L10 := by rw [hdt2, hL10]; exact okMoved hdo
    rw [← hL10, ← hdt2] at hown2
    have hdtn : dt.foot.Nodup := by rw [hdt2, DT.sh_foot]; exact List.pairwise_map.2 (hdn.imp fun hab e => hab (Nat.add_left_cancel e))
    have hdtt : dt.tree = .node ti tk ts tks := by rw [hdt2, DT.sh_tree, hdt]
    have hdtf : ∀ x ∈ dt.foot, 2 ≤ x := fun x hx => by
      rw [hdt2, DT.sh_foot] at hx
      obtain ⟨z, _, rfl⟩ := List.mem_map.1 hx
      omega
    have hb0 : L10[0]? = some (some (.box 4 (.agg [.int .i64 0, .int .i64 0, .str ⟨⟨[]⟩⟩, .nils]))) := by rw [hL10, hLL]; rfl
    have hb1 : L10[1]? = some (some (.box 5 (.agg [.nilf, .func (.func 49) [] [], .func (.func 50) [] [], .func (.func 53) [] [], .func (.func 54) [] []]))) := by rw [hL10, hLL]; rfl
    have hl10 : 2 ≤ L10.length := by rw [hL10, List.length_append, hll]; omega
    rw [hLL] at hown2
    clear hL10 hdt2 hLL hll
    obtain ⟨dto, dks, rfl, hdk⟩ := DT.cell_node hdtt
    obtain ⟨kid, hkid⟩ : ∃ kid, kid = kidAV dks.length dto := ⟨_, rfl⟩
    have hdc : (DT.node ti tk ts dto dks).cell = .agg [.int .i64 ti, .int .i64 tk, .str ts, kid] := by rw [hkid]; rfl
    obtain ⟨dt, hdt2⟩ : ∃ y, y = DT.node ti tk ts dto dks := ⟨_, rfl⟩
    rw [← hdt2] at hdto hdtn hdtt hdtf hdc hown2
    rw [hdc] at hown2
    obtain ⟨n, hn⟩ : ∃ n, n = L10.length := ⟨_, rfl⟩
    obtain ⟨L11, hL11⟩ : ∃ M : Store, M = L10 ++ [some (AO.box 4 (.agg [.int .i64 0, .int .i64 0, .str ⟨⟨[]⟩⟩, .nils]))] := ⟨_, rfl⟩
    have hg11 : L11[n]? = some (some (.box 4 (.agg [.int .i64 0, .int .i64 0, .str ⟨⟨[]⟩⟩, .nils]))) := by rw [hL11, hn]; simp
    have hl11 : L11.length = n + 1 := by rw [hL11, hn]; simp
    refine ⟨Ent.of (hP ▸ Try.func36) rfl, TC.mono hown2 ?_⟩
    rintro y _ ⟨rfl, e⟩
    rw [e]
    cbv
    ((try cbv) <;> (repeat ((with_reducible refine EW.of ?_); cbv)))
    simp only [← List.length.eq_def, ← List.append.eq_def, ← List.get?Internal.eq_def]
    rw [show L10.append [some (AO.box 4 (.agg [.int .i64 0, .int .i64 0, .str ⟨⟨[]⟩⟩, .nils]))] = L11 from hL11.symm, ← hn]
    rw [show L11.get?Internal n = _ from hg11]
    refine chk_iff.2 ⟨by rw [hkid]; cases dto <;> rfl, ?_⟩
    generalize hL12 : List.set L11 n _ = L12
    replace hL12 : L12 = L10 ++ [some (AO.box 4 (.agg [.int .i64 ti, .int .i64 tk, .str ts, kid]))] := by rw [← hL12, hL11, List.set_append_right (h := by omega), hn]; simp; rfl
    have hg12 : L12[n]? = some (some (.box 4 dt.cell)) := by rw [hL12, hn, hdc]; simp
    have hl12 : L12.length = n + 1 := by rw [hL12, hn]; simp
    have h1210 : ∀ y, y < n → L12[y]? = L10[y]? := fun y hy => by rw [hL12, List.getElem?_append_left (by omega)]
    have hlt := DT.ok.lt hdto
    have hd12 : dt.ok L12 := DT.ok.same (fun y hy => h1210 y (by rw [hn]; exact hlt y hy)) hdto
    have hn12 : (n :: dt.foot).Nodup := List.nodup_cons.2 ⟨fun h => by have := hlt n h; omega, hdtn⟩
    have hcall := hway L12 n dt hdtt hd12 hn12 hg12
    ((try cbv) <;> (repeat ((with_reducible refine EW.of ?_); cbv)))
    refine ⟨4, rfl, by decide, _, rfl, ?_⟩
    cbv
    (simp only [← List.get?Internal.eq_def]; rw [show L12.get?Internal 1 = _ from ((h1210 1 (by omega)).trans hb1)]; cbv)
    refine ⟨hent, TC.mono hcall ?_⟩
    rintro y L13 ⟨rfl, hl13, hok, hs13⟩
    have h013 : ∀ y, y < 2 → L13[y]? = L10[y]? := fun y hy => by
      rw [hs13 y (by omega) (fun h => by
        rcases List.mem_cons.1 h with h | h
        · omega
        · have := hdtf y h; omega), h1210 y (by omega)]
    have hz0 := (h013 0 (by omega)).trans hb0
    obtain ⟨we, hwe⟩ : ∃ e, e = wr.2 := ⟨_, rfl⟩
    rw [← hwe] at hok hgood herr ⊢
    cbv
    ((try cbv) <;> (repeat ((with_reducible refine EW.of ?_); cbv)))
    refine bsplit (fun h => ?_) (fun h => ?_)
    · have h : we ≠ 0 := by
        have h' : A.bnot (A.eq we 0) = true := h
        rw [A.ok_bnot, A.ok_eq] at h'
        simpa using h'
      rw [herr h]
      ((try cbv) <;> (repeat ((with_reducible refine EW.of ?_); cbv)))
      simp only [← List.get?Internal.eq_def]
      rw [show L13.get?Internal 0 = _ from hz0]
      refine chk_iff.2 ⟨by rfl, ?_⟩
      generalize hL14 : List.set L13 0 _ = L14
      have hg14 : L14[0]? = some (some (.box 4 (.agg [.int .i64 0, .int .i64 0, .str ⟨⟨[]⟩⟩, .nils]))) := by rw [← hL14, List.getElem?_set_self (by omega)]; rfl
      ((try cbv) <;> (repeat ((with_reducible refine EW.of ?_); cbv)))
      (simp only [← List.get?Internal.eq_def]; rw [show L14.get?Internal 0 = _ from hg14]; cbv)
      (repeat (first | exact trivial | refine And.intro (Emb.Pur _ _) ?_ | refine And.intro rfl ?_ | refine And.intro (Pur.mk rfl) ?_ | refine And.intro (Pur.mk (by assumption)) ?_))
    have h : we = 0 := by
      have h' : A.bnot (A.eq we 0) = false := h
      rw [A.ok_bnot, A.ok_eq] at h'
      simpa using h'
    rw [hgood h]
    obtain ⟨d13, htr, hb13, hok13, hnd13⟩ := hok h
    obtain ⟨ri, rk, rs, rks, hri⟩ : ∃ i k s ks, wr.1 = .node i k s ks := by cases wr.1; exact ⟨_, _, _, _, rfl⟩
    rw [hri] at htr ⊢
    rw [E.node]
    obtain ⟨L14, hv14, hl14, hg14, hs14⟩ := DT.shutB E d13 L13 n hok13 hnd13 hb13 ri rk rs rks htr
    refine EW.vsC (hv14 _ _) ?_
    have hz14 := (hs14 0 (fun h => by
      rcases List.mem_cons.1 h with h | h
      · omega
      · obtain ⟨els, he⟩ := DT.ok.arr hok13 0 h
        rw [hz0] at he
        cases he)).trans hz0
    ((try cbv) <;> (repeat ((with_reducible refine EW.of ?_); cbv)))
    (simp only [← List.get?Internal.eq_def]; rw [show L14.get?Internal n = _ from hg14]; cbv)
    simp only [← List.get?Internal.eq_def]
    rw [show L14.get?Internal 0 = _ from hz14]
    refine chk_iff.2 ⟨by rfl, ?_⟩
    generalize hL15 : List.set L14 0 _ = L15
    have hg15 : L15[0]? = some (some (.box 4 (.agg [.int .i64 ri, .int .i64 rk, .str rs, .sl 4 (E.tree.l rks)]))) := by rw [← hL15, List.getElem?_set_self (by omega)]; rfl
    ((try cbv) <;> (repeat ((with_reducible refine EW.of ?_); cbv)))
    (simp only [← List.get?Internal.eq_def]; rw [show L15.get?Internal 0 = _ from hg15]; cbv)
    (repeat (first | exact trivial | refine And.intro (Emb.Pur _ _) ?_ | refine And.intro rfl ?_ | refine And.intro (Pur.mk rfl) ?_ | refine And.intro (Pur.mk (by assumption)) ?_))
end Go.Proofs.Ytaieiigfheabfaa

/-! undo.inverses. -/
namespace Go.Proofs.Ytaieiigfheabfaa
open Go.Proofs.Ytaieiigfheabfaa.Tw
def fndT (t : Tree) (id : Int) : Tree := (findTr id t).getD t0
theorem found56 (A : Ar) (E : Em) {P : Program} (hP : P = Try.prog) (id : Int) (m : Nat) (hm : m ≤ 999999) (t : Tree) (hw : within m t) : TPure P 56 [E.tree.v t, .int .i64 id] (.tup [E.tree.v (fndT t id), .int .i64 (parentS t id).1, .int .i64 (parentS t id).2.1]) := by
  have hf := Find57 A E hP id m hm t hw
  have hp := Parent15 A hP id m (by omega) t hw
  unfold foundAV at hf
  unfold parentAV at hp
  rw [E.av] at hp
  obtain ⟨o, ho⟩ : ∃ o, o = (findTr id t).isSome := ⟨_, rfl⟩
  obtain ⟨u, hu⟩ : ∃ u, u = fndT t id := ⟨_, rfl⟩
  rw [← ho, show (findTr id t).getD t0 = u from hu.symm] at hf
  obtain ⟨ps, hps⟩ : ∃ ps, ps = parentS t id := ⟨_, rfl⟩
  rw [← hps] at hp ⊢
  rw [← hu]
  obtain ⟨p1, p2, p3⟩ := ps
  dsimp only at hp ⊢
  obtain ⟨i, k, s, ks⟩ := t
  obtain ⟨ui, uk, us, uks⟩ := u
  rw [E.node] at hf hp ⊢
  rw [E.node] at hf ⊢
  refine TPure.ofE A T0 (T0_ok hP) (hP ▸ Try.func56) rfl _ rfl (by simp) ?_
  cbv
  ((try cbv) <;> (repeat ((with_reducible refine EW.of ?_); cbv)))
  (refine ⟨Ent.of (hP ▸ Try.func57) rfl, ?_⟩; refine TC.pureE hf ?_; cbv; (repeat (first | exact trivial | refine And.intro (Emb.Pur _ _) ?_ | refine And.intro rfl ?_ | refine And.intro (Pur.mk rfl) ?_ | refine And.intro (Pur.mk (by assumption)) ?_)); ((try cbv) <;> (repeat ((with_reducible refine EW.of ?_); cbv))))
  (refine ⟨Ent.of (hP ▸ Try.func58) rfl, ?_⟩; refine TC.pureE hp ?_; cbv; (repeat (first | exact trivial | refine And.intro (Emb.Pur _ _) ?_ | refine And.intro rfl ?_ | refine And.intro (Pur.mk rfl) ?_ | refine And.intro (Pur.mk (by assumption)) ?_)); ((try cbv) <;> (repeat ((with_reducible refine EW.of ?_); cbv))))
  exact ⟨Emb.Pur _ _, trivial⟩
def capF : AV := .imm [.func (.func 56) [] []]
/-- The inverse of a step that goes. -/
def invF (t : Tree) (x : Stp) : Stp :=
  if x.op = 1 then ⟨2, x.sub.id, 0, 0, ⟨#[]⟩, noT⟩ else if x.op = 2 then ⟨1, 0, (parentS t x.id).1, (parentS t x.id).2.1, ⟨#[]⟩, fndT t x.id⟩ else if x.op = 3 then ⟨3, x.id, (parentS t x.id).1, (parentS t x.id).2.1, ⟨#[]⟩, noT⟩ else ⟨4, x.id, 0, 0, (fndT t x.id).txt, noT⟩
theorem noT_v (E : Em) (F : EmS) (op id par pl : Int) (tx : ByteArray) : F.l.v ⟨op, id, par, pl, tx, noT⟩ = .agg [.int .i8 op, .int .i64 id, .int .i64 par, .int .i64 pl, .str tx, .int .i64 0, .int .i64 0, .str ⟨#[]⟩, .sl 4 []] := by
  unfold noT
  rw [F.v E, E.tree.nil]
theorem inv59 (A : Ar) (E : Em) (F : EmS) {P : Program} (hP : P = Try.prog) (t : Tree) (x : Stp) : TPure P 59 [E.tree.v t, F.l.v x] (F.l.v ⟨2, x.sub.id, 0, 0, ⟨#[]⟩, noT⟩) := by
  rw [noT_v E F]
  obtain ⟨op, id, par, pl, tx, ⟨i0, k0, s0, ks0⟩⟩ := x
  obtain ⟨i, k, s, ks⟩ := t
  rw [F.v E, E.node]
  show TPure P _ _ (.agg [.int .i8 2, .int .i64 i0, .int .i64 0, .int .i64 0, .str ⟨#[]⟩, .int .i64 0, .int .i64 0, .str ⟨#[]⟩, .sl 4 []])
  refine TPure.ofE A T0 (T0_ok hP) (hP ▸ Try.func59) rfl _ rfl (by simp) ?_
  cbv
  ((try cbv) <;> (repeat ((with_reducible refine EW.of ?_); cbv)))
  (repeat (first | exact trivial | refine And.intro (Emb.Pur _ _) ?_ | refine And.intro rfl ?_ | refine And.intro (Pur.mk rfl) ?_ | refine And.intro (Pur.mk (by assumption)) ?_))
theorem inv60 (A : Ar) (E : Em) (F : EmS) {P : Program} (hP : P = Try.prog) (m : Nat) (hm : m ≤ 999999) (t : Tree) (hw : within m t) (x : Stp) : TPure P 60 [E.tree.v t, F.l.v x, capF] (F.l.v ⟨1, 0, (parentS t x.id).1, (parentS t x.id).2.1, ⟨#[]⟩, fndT t x.id⟩) := by
  have hf := found56 A E hP x.id m hm t hw
  obtain ⟨op, id, par, pl, tx, ⟨i0, k0, s0, ks0⟩⟩ := x
  dsimp only at hf ⊢
  obtain ⟨p1, hp1⟩ : ∃ p, p = (parentS t id).1 := ⟨_, rfl⟩
  obtain ⟨p2, hp2⟩ : ∃ p, p = (parentS t id).2.1 := ⟨_, rfl⟩
  obtain ⟨u, hu⟩ : ∃ u, u = fndT t id := ⟨_, rfl⟩
  rw [← hp1, ← hp2, ← hu] at hf
  try rw [← hp1, ← hp2]
  try rw [← hu]
  clear hp1 hp2 hu
  obtain ⟨i, k, s, ks⟩ := t
  obtain ⟨ui, uk, us, uks⟩ := u
  rw [E.node] at hf ⊢
  rw [E.node] at hf
  rw [F.v E]
  try rw [F.v E]
  unfold capF
  refine TPure.ofE A T0 (T0_ok hP) (hP ▸ Try.func60) rfl _ rfl (by simp) ?_
  cbv
  ((try cbv) <;> (repeat ((with_reducible refine EW.of ?_); cbv)))
  (refine ⟨Ent.of (hP ▸ Try.func56) rfl, ?_⟩; refine TC.pureE hf ?_; cbv; (repeat (first | exact trivial | refine And.intro (Emb.Pur _ _) ?_ | refine And.intro rfl ?_ | refine And.intro (Pur.mk rfl) ?_ | refine And.intro (Pur.mk (by assumption)) ?_)); ((try cbv) <;> (repeat ((with_reducible refine EW.of ?_); cbv))))
  (repeat (first | exact trivial | refine And.intro (Emb.Pur _ _) ?_ | refine And.intro rfl ?_ | refine And.intro (Pur.mk rfl) ?_ | refine And.intro (Pur.mk (by assumption)) ?_))
theorem inv61 (A : Ar) (E : Em) (F : EmS) {P : Program} (hP : P = Try.prog) (m : Nat) (hm : m ≤ 999999) (t : Tree) (hw : within m t) (x : Stp) : TPure P 61 [E.tree.v t, F.l.v x, capF] (F.l.v ⟨3, x.id, (parentS t x.id).1, (parentS t x.id).2.1, ⟨#[]⟩, noT⟩) := by
  have hf := found56 A E hP x.id m hm t hw
  rw [noT_v E F]
  obtain ⟨op, id, par, pl, tx, ⟨i0, k0, s0, ks0⟩⟩ := x
  dsimp only at hf ⊢
  obtain ⟨p1, hp1⟩ : ∃ p, p = (parentS t id).1 := ⟨_, rfl⟩
  obtain ⟨p2, hp2⟩ : ∃ p, p = (parentS t id).2.1 := ⟨_, rfl⟩
  obtain ⟨u, hu⟩ : ∃ u, u = fndT t id := ⟨_, rfl⟩
  rw [← hp1, ← hp2, ← hu] at hf
  try rw [← hp1, ← hp2]
  try rw [← hu]
  clear hp1 hp2 hu
  obtain ⟨i, k, s, ks⟩ := t
  obtain ⟨ui, uk, us, uks⟩ := u
  rw [E.node] at hf ⊢
  rw [E.node] at hf
  rw [F.v E]
  try rw [F.v E]
  unfold capF
  refine TPure.ofE A T0 (T0_ok hP) (hP ▸ Try.func61) rfl _ rfl (by simp) ?_
  cbv
  ((try cbv) <;> (repeat ((with_reducible refine EW.of ?_); cbv)))
  (refine ⟨Ent.of (hP ▸ Try.func56) rfl, ?_⟩; refine TC.pureE hf ?_; cbv; (repeat (first | exact trivial | refine And.intro (Emb.Pur _ _) ?_ | refine And.intro rfl ?_ | refine And.intro (Pur.mk rfl) ?_ | refine And.intro (Pur.mk (by assumption)) ?_)); ((try cbv) <;> (repeat ((with_reducible refine EW.of ?_); cbv))))
  (repeat (first | exact trivial | refine And.intro (Emb.Pur _ _) ?_ | refine And.intro rfl ?_ | refine And.intro (Pur.mk rfl) ?_ | refine And.intro (Pur.mk (by assumption)) ?_))
theorem inv62 (A : Ar) (E : Em) (F : EmS) {P : Program} (hP : P = Try.prog) (m : Nat) (hm : m ≤ 999999) (t : Tree) (hw : within m t) (x : Stp) : TPure P 62 [E.tree.v t, F.l.v x, capF] (F.l.v ⟨4, x.id, 0, 0, (fndT t x.id).txt, noT⟩) := by
  have hf := found56 A E hP x.id m hm t hw
  rw [noT_v E F]
  obtain ⟨op, id, par, pl, tx, ⟨i0, k0, s0, ks0⟩⟩ := x
  dsimp only at hf ⊢
  obtain ⟨p1, hp1⟩ : ∃ p, p = (parentS t id).1 := ⟨_, rfl⟩
  obtain ⟨p2, hp2⟩ : ∃ p, p = (parentS t id).2.1 := ⟨_, rfl⟩
  obtain ⟨u, hu⟩ : ∃ u, u = fndT t id := ⟨_, rfl⟩
  rw [← hp1, ← hp2, ← hu] at hf
  try rw [← hp1, ← hp2]
  try rw [← hu]
  clear hp1 hp2 hu
  obtain ⟨i, k, s, ks⟩ := t
  obtain ⟨ui, uk, us, uks⟩ := u
  rw [E.node] at hf ⊢
  rw [E.node] at hf
  rw [F.v E]
  try rw [F.v E]
  unfold capF
  refine TPure.ofE A T0 (T0_ok hP) (hP ▸ Try.func62) rfl _ rfl (by simp) ?_
  cbv
  ((try cbv) <;> (repeat ((with_reducible refine EW.of ?_); cbv)))
  (refine ⟨Ent.of (hP ▸ Try.func56) rfl, ?_⟩; refine TC.pureE hf ?_; cbv; (repeat (first | exact trivial | refine And.intro (Emb.Pur _ _) ?_ | refine And.intro rfl ?_ | refine And.intro (Pur.mk rfl) ?_ | refine And.intro (Pur.mk (by assumption)) ?_)); ((try cbv) <;> (repeat ((with_reducible refine EW.of ?_); cbv))))
  (repeat (first | exact trivial | refine And.intro (Emb.Pur _ _) ?_ | refine And.intro rfl ?_ | refine And.intro (Pur.mk rfl) ?_ | refine And.intro (Pur.mk (by assumption)) ?_))
theorem invs37 (A : Ar) {P : Program} (hP : P = Try.prog) : TPure P 37 [] (.agg [.nilf, .func (.func 59) [] [], .func (.func 60) [] [capF], .func (.func 61) [] [capF], .func (.func 62) [] [capF]]) := by
  unfold capF
  refine TPure.ofE A T0 (T0_ok hP) (hP ▸ Try.func37) rfl _ rfl (by simp) ?_
  cbv
  ((try cbv) <;> (repeat ((with_reducible refine EW.of ?_); cbv)))
  refine ⟨_, rfl, by decide, ?_⟩
  cbv
  (repeat (first | exact trivial | refine And.intro (Emb.Pur _ _) ?_ | refine And.intro rfl ?_ | refine And.intro (Pur.mk rfl) ?_ | refine And.intro (Pur.mk (by assumption)) ?_))
def invR (t : Tree) (x : Stp) : Stp × Int := if (applyF t x).2 = 0 then (invF t x, 0) else (⟨0, 0, 0, 0, ⟨#[]⟩, noT⟩, (applyF t x).2)
set_option maxHeartbeats 2000000 in
theorem Invert23 (A : Ar) (E : Em) (F : EmS) {P : Program} (hP : P = Try.prog) (m : Nat) (hm : m ≤ 999998) (t : Tree) (hw : within (m + 1) t) (x : Stp) (hws : within (m + 1) x.sub) (hop : x.op ≤ 127) : TPure P 23 [E.tree.v t, F.l.v x] (.tup [F.l.v (invR t x).1, .int .i64 (invR t x).2]) := by
  have hap := Apply22 A E F hP m t hw x hws hop
  have h1 := inv59 A E F hP t x
  have h2 := inv60 A E F hP (m + 1) (by omega) t hw x
  have h3 := inv61 A E F hP (m + 1) (by omega) t hw x
  have h4 := inv62 A E F hP (m + 1) (by omega) t hw x
  have hi := invs37 A hP
  have hx : (applyF t x).2 = 0 → 1 ≤ x.op ∧ x.op ≤ 4 := fun h => by
    unfold applyF at h
    split at h
    · rename_i hc; exact hc.2.2
    · exact absurd (show (2 : Int) = 0 from h) (by decide)
  obtain ⟨RV, hRV⟩ : ∃ v, v = AV.tup [F.l.v (invR t x).1, .int .i64 (invR t x).2] := ⟨_, rfl⟩
  rw [← hRV]
  unfold invR at hRV
  obtain ⟨ap, hapv⟩ : ∃ ap, ap = applyF t x := ⟨_, rfl⟩
  rw [← hapv] at hap hx hRV
  obtain ⟨at_, e⟩ := ap
  dsimp only at hap hx hRV
  have hbad : e ≠ 0 → RV = .tup [.agg [.int .i8 0, .int .i64 0, .int .i64 0, .int .i64 0, .str ⟨#[]⟩, .int .i64 0, .int .i64 0, .str ⟨#[]⟩, .sl 4 []], .int .i64 e] := fun h => by rw [hRV, if_neg h]; rw [noT_v E F]
  have hgood : e = 0 → RV = .tup [F.l.v (invF t x), .int .i64 0] := fun h => by rw [hRV, if_pos h]
  clear hapv hRV
  obtain ⟨y, hy⟩ : ∃ y, y = invF t x := ⟨_, rfl⟩
  rw [← hy] at hgood
  obtain ⟨i, k, s, ks⟩ := t
  obtain ⟨op, id, par, pl, tx, ⟨i0, k0, s0, ks0⟩⟩ := x
  obtain ⟨ai, ak, as_, aks⟩ := at_
  dsimp only at hx
  rw [E.node] at hap h1 h2 h3 h4 ⊢
  rw [E.node] at hap
  rw [F.v E] at hap h1 h2 h3 h4 ⊢
  unfold capF at h2 h3 h4 hi
  refine TPure.ofE A T0 (T0_ok hP) (hP ▸ Try.func23) rfl _ rfl (by simp) ?_
  cbv
  ((try cbv) <;> (repeat ((with_reducible refine EW.of ?_); cbv)))
  (refine ⟨Ent.of (hP ▸ Try.func22) rfl, ?_⟩; refine TC.pureE hap ?_; cbv; (repeat (first | exact trivial | refine And.intro (Emb.Pur _ _) ?_ | refine And.intro rfl ?_ | refine And.intro (Pur.mk rfl) ?_ | refine And.intro (Pur.mk (by assumption)) ?_)); ((try cbv) <;> (repeat ((with_reducible refine EW.of ?_); cbv))))
  refine bsplit (fun h => ?_) (fun h => ?_)
  · have h : e ≠ 0 := ne_t h rfl rfl
    rw [hbad h]
    ((try cbv) <;> (repeat ((with_reducible refine EW.of ?_); cbv)))
    (repeat (first | exact trivial | refine And.intro (Emb.Pur _ _) ?_ | refine And.intro rfl ?_ | refine And.intro (Pur.mk rfl) ?_ | refine And.intro (Pur.mk (by assumption)) ?_))
  have h : e = 0 := ne_f h rfl rfl
  obtain ⟨hx1, hx2⟩ := hx h
  obtain ⟨yo, yi, yp, yl, yt, ⟨ya, yb, yc, yd⟩⟩ := y
  have hg := hgood h
  rw [F.v E] at hg
  rw [hg]
  ((try cbv) <;> (repeat ((with_reducible refine EW.of ?_); cbv)))
  rcases (show op = 1 ∨ op = 2 ∨ op = 3 ∨ op = 4 by omega) with h5 | h5 | h5 | h5
  · subst h5
    have hk := h1
    rw [show (⟨2, (Stp.sub ⟨1, id, par, pl, tx, .node i0 k0 s0 ks0⟩).id, 0, 0, ⟨#[]⟩, noT⟩ : Stp) = _ from hy.symm, F.v E] at hk
    (refine TW.drawE (A := A) false [] _ [(7, [some (.box 4 (.agg [.int .i64 i, .int .i64 k, .str s, .sl 4 (E.tree.l ks)])), some (.box 9 (.agg [.int .i8 1, .int .i64 id, .int .i64 par, .int .i64 pl, .str tx, .int .i64 i0, .int .i64 k0, .str s0, .sl 4 (E.tree.l ks0)])), some (.box 9 (.agg [.int .i8 yo, .int .i64 yi, .int .i64 yp, .int .i64 yl, .str yt, .int .i64 ya, .int .i64 yb, .str yc, .sl 4 (E.tree.l yd)])), some (.box 4 (.agg [.int .i64 ai, .int .i64 ak, .str as_, .sl 4 (E.tree.l aks)]))])] rfl (T0_ok hP) (hP ▸ follows_mixed) (by kernel_rfl) rfl (by kernel_rfl) (by cbv) (by first | kernel_rfl | cbv) rfl rfl rfl ?_; cbv)
    refine ⟨Ent.of (hP ▸ Try.func37) rfl, _, TC.pure hi rfl ⟨rfl, rfl⟩, ?_⟩
    cbv
    refine ⟨1, rfl, by decide, ?_⟩
    cbv
    refine ⟨Ent.of (hP ▸ Try.func59) rfl, _, TC.pure hk (show purL [.agg [.int .i64 i, .int .i64 k, .str s, .sl 4 (E.tree.l ks)], .agg [.int .i8 1, .int .i64 id, .int .i64 par, .int .i64 pl, .str tx, .int .i64 i0, .int .i64 k0, .str s0, .sl 4 (E.tree.l ks0)]] = true by simp [purL, AV.pur, E.tree.purL]) ⟨rfl, rfl⟩, ?_⟩
    cbv
    refine ⟨rfl, ?_⟩
    ((try cbv) <;> (repeat ((with_reducible refine EW.of ?_); cbv)))
    (repeat (first | exact trivial | refine And.intro (Emb.Pur _ _) ?_ | refine And.intro rfl ?_ | refine And.intro (Pur.mk rfl) ?_ | refine And.intro (Pur.mk (by assumption)) ?_))
  · subst h5
    have hk := h2
    rw [show (⟨1, 0, (parentS (.node i k s ks) (Stp.id ⟨2, id, par, pl, tx, .node i0 k0 s0 ks0⟩)).1, (parentS (.node i k s ks) (Stp.id ⟨2, id, par, pl, tx, .node i0 k0 s0 ks0⟩)).2.1, ⟨#[]⟩, fndT (.node i k s ks) (Stp.id ⟨2, id, par, pl, tx, .node i0 k0 s0 ks0⟩)⟩ : Stp) = _ from hy.symm, F.v E] at hk
    (refine TW.drawE (A := A) false [] _ [(7, [some (.box 4 (.agg [.int .i64 i, .int .i64 k, .str s, .sl 4 (E.tree.l ks)])), some (.box 9 (.agg [.int .i8 2, .int .i64 id, .int .i64 par, .int .i64 pl, .str tx, .int .i64 i0, .int .i64 k0, .str s0, .sl 4 (E.tree.l ks0)])), some (.box 9 (.agg [.int .i8 yo, .int .i64 yi, .int .i64 yp, .int .i64 yl, .str yt, .int .i64 ya, .int .i64 yb, .str yc, .sl 4 (E.tree.l yd)])), some (.box 4 (.agg [.int .i64 ai, .int .i64 ak, .str as_, .sl 4 (E.tree.l aks)]))])] rfl (T0_ok hP) (hP ▸ follows_mixed) (by kernel_rfl) rfl (by kernel_rfl) (by cbv) (by first | kernel_rfl | cbv) rfl rfl rfl ?_; cbv)
    refine ⟨Ent.of (hP ▸ Try.func37) rfl, _, TC.pure hi rfl ⟨rfl, rfl⟩, ?_⟩
    cbv
    refine ⟨2, rfl, by decide, ?_⟩
    cbv
    refine ⟨Ent.of (hP ▸ Try.func60) rfl, _, TC.pure hk (show purL [.agg [.int .i64 i, .int .i64 k, .str s, .sl 4 (E.tree.l ks)], .agg [.int .i8 2, .int .i64 id, .int .i64 par, .int .i64 pl, .str tx, .int .i64 i0, .int .i64 k0, .str s0, .sl 4 (E.tree.l ks0)], .imm [.func (.func 56) [] []]] = true by simp [purL, AV.pur, E.tree.purL]) ⟨rfl, rfl⟩, ?_⟩
    cbv
    refine ⟨rfl, ?_⟩
    ((try cbv) <;> (repeat ((with_reducible refine EW.of ?_); cbv)))
    (repeat (first | exact trivial | refine And.intro (Emb.Pur _ _) ?_ | refine And.intro rfl ?_ | refine And.intro (Pur.mk rfl) ?_ | refine And.intro (Pur.mk (by assumption)) ?_))
  · subst h5
    have hk := h3
    rw [show (⟨3, (Stp.id ⟨3, id, par, pl, tx, .node i0 k0 s0 ks0⟩), (parentS (.node i k s ks) (Stp.id ⟨3, id, par, pl, tx, .node i0 k0 s0 ks0⟩)).1, (parentS (.node i k s ks) (Stp.id ⟨3, id, par, pl, tx, .node i0 k0 s0 ks0⟩)).2.1, ⟨#[]⟩, noT⟩ : Stp) = _ from hy.symm, F.v E] at hk
    (refine TW.drawE (A := A) false [] _ [(7, [some (.box 4 (.agg [.int .i64 i, .int .i64 k, .str s, .sl 4 (E.tree.l ks)])), some (.box 9 (.agg [.int .i8 3, .int .i64 id, .int .i64 par, .int .i64 pl, .str tx, .int .i64 i0, .int .i64 k0, .str s0, .sl 4 (E.tree.l ks0)])), some (.box 9 (.agg [.int .i8 yo, .int .i64 yi, .int .i64 yp, .int .i64 yl, .str yt, .int .i64 ya, .int .i64 yb, .str yc, .sl 4 (E.tree.l yd)])), some (.box 4 (.agg [.int .i64 ai, .int .i64 ak, .str as_, .sl 4 (E.tree.l aks)]))])] rfl (T0_ok hP) (hP ▸ follows_mixed) (by kernel_rfl) rfl (by kernel_rfl) (by cbv) (by first | kernel_rfl | cbv) rfl rfl rfl ?_; cbv)
    refine ⟨Ent.of (hP ▸ Try.func37) rfl, _, TC.pure hi rfl ⟨rfl, rfl⟩, ?_⟩
    cbv
    refine ⟨3, rfl, by decide, ?_⟩
    cbv
    refine ⟨Ent.of (hP ▸ Try.func61) rfl, _, TC.pure hk (show purL [.agg [.int .i64 i, .int .i64 k, .str s, .sl 4 (E.tree.l ks)], .agg [.int .i8 3, .int .i64 id, .int .i64 par, .int .i64 pl, .str tx, .int .i64 i0, .int .i64 k0, .str s0, .sl 4 (E.tree.l ks0)], .imm [.func (.func 56) [] []]] = true by simp [purL, AV.pur, E.tree.purL]) ⟨rfl, rfl⟩, ?_⟩
    cbv
    refine ⟨rfl, ?_⟩
    ((try cbv) <;> (repeat ((with_reducible refine EW.of ?_); cbv)))
    (repeat (first | exact trivial | refine And.intro (Emb.Pur _ _) ?_ | refine And.intro rfl ?_ | refine And.intro (Pur.mk rfl) ?_ | refine And.intro (Pur.mk (by assumption)) ?_))
  · subst h5
    have hk := h4
    rw [show (⟨4, (Stp.id ⟨4, id, par, pl, tx, .node i0 k0 s0 ks0⟩), 0, 0, (fndT (.node i k s ks) (Stp.id ⟨4, id, par, pl, tx, .node i0 k0 s0 ks0⟩)).txt, noT⟩ : Stp) = _ from hy.symm, F.v E] at hk
    (refine TW.drawE (A := A) false [] _ [(7, [some (.box 4 (.agg [.int .i64 i, .int .i64 k, .str s, .sl 4 (E.tree.l ks)])), some (.box 9 (.agg [.int .i8 4, .int .i64 id, .int .i64 par, .int .i64 pl, .str tx, .int .i64 i0, .int .i64 k0, .str s0, .sl 4 (E.tree.l ks0)])), some (.box 9 (.agg [.int .i8 yo, .int .i64 yi, .int .i64 yp, .int .i64 yl, .str yt, .int .i64 ya, .int .i64 yb, .str yc, .sl 4 (E.tree.l yd)])), some (.box 4 (.agg [.int .i64 ai, .int .i64 ak, .str as_, .sl 4 (E.tree.l aks)]))])] rfl (T0_ok hP) (hP ▸ follows_mixed) (by kernel_rfl) rfl (by kernel_rfl) (by cbv) (by first | kernel_rfl | cbv) rfl rfl rfl ?_; cbv)
    refine ⟨Ent.of (hP ▸ Try.func37) rfl, _, TC.pure hi rfl ⟨rfl, rfl⟩, ?_⟩
    cbv
    refine ⟨4, rfl, by decide, ?_⟩
    cbv
    refine ⟨Ent.of (hP ▸ Try.func62) rfl, _, TC.pure hk (show purL [.agg [.int .i64 i, .int .i64 k, .str s, .sl 4 (E.tree.l ks)], .agg [.int .i8 4, .int .i64 id, .int .i64 par, .int .i64 pl, .str tx, .int .i64 i0, .int .i64 k0, .str s0, .sl 4 (E.tree.l ks0)], .imm [.func (.func 56) [] []]] = true by simp [purL, AV.pur, E.tree.purL]) ⟨rfl, rfl⟩, ?_⟩
    cbv
    refine ⟨rfl, ?_⟩
    ((try cbv) <;> (repeat ((with_reducible refine EW.of ?_); cbv)))
    (repeat (first | exact trivial | refine And.intro (Emb.Pur _ _) ?_ | refine And.intro rfl ?_ | refine And.intro (Pur.mk rfl) ?_ | refine And.intro (Pur.mk (by assumption)) ?_))
end Go.Proofs.Ytaieiigfheabfaa

/-! apart, some and wakes of law10. -/
namespace Go.Proofs.Ytaieiigfheabfaa
open Go.Proofs.Ytaieiigfheabfaa.Tw
def spotIds (l : List (Tree × Nat)) : List Int := l.map (·.1.id)
def rngI (i : Int) : Bool := decide (1 ≤ i) && decide (i ≤ 1125899906842624)
def apartU (t : Tree) : Bool := decide (spotIds (walkT 201 t [] 1)).Nodup && ((spotIds (walkT 201 t [] 1)).all rngI && decide ((walkT 201 t [] 1).length ≤ 200))
theorem within_okU : ∀ {n : Nat} {t : Tree}, within n t → t.ok
  | 0, _, h => h.elim
  | n + 1, .node i k s ks, h => .node (by have := h.1; omega) fun t ht => within_okU (h.2 t ht)
theorem take_nodup {l : List Int} {i : Nat} {x : Int} (hx : l[i]? = some x) (h : (l.take i).Nodup) (hn : x ∉ l.take i) : (l.take (i + 1)).Nodup := by
  rw [List.take_add_one, hx]
  simp only [Option.toList_some]
  rw [List.nodup_append]
  refine ⟨h, by simp, fun a ha b hb => ?_⟩
  simp at hb
  subst hb
  exact fun e => hn (e ▸ ha)
theorem not_nodup {l : List Int} {i k : Nat} {x : Int} (hk : k < i) (hx : l[i]? = some x) (hy : l[k]? = some x) : ¬ l.Nodup := fun h => by
  have := (List.getElem?_inj (List.getElem?_eq_some_iff.1 hx).1 h).1 (hx.trans hy.symm)
  omega
theorem apart_within {t : Tree} (h : apartU t = true) : within 201 t ∧ (idsT t).Nodup ∧ ∀ i ∈ idsT t, 1 ≤ i ∧ i ≤ 1125899906842624 := by
  unfold apartU at h
  rw [Bool.and_eq_true, Bool.and_eq_true, decide_eq_true_eq, decide_eq_true_eq] at h
  obtain ⟨h1, h2, h3⟩ := h
  have he : spotIds (walkT 201 t [] 1) = idsT t := by
    rw [walkT_eq 201 t [] 1 (by omega), List.nil_append]
    exact preT_ids t 1
  rw [he] at h1 h2
  refine ⟨walk_within (by decide) (by omega), h1, fun i hi => ?_⟩
  have := List.all_eq_true.1 h2 i hi
  simpa [rngI] using this
set_option maxHeartbeats 1000000 in
theorem apart20 (A : Ar) (E : Em) {P : Program} (hP : P = Try.prog) (t : Tree) (hok : t.ok) : TPure P 20 [E.tree.v t] (.bool (apartU t)) := by
  have h23 := Walk23 A hP 201 (by decide) (by decide) t hok
  obtain ⟨r, hr⟩ : ∃ r, r = apartU t := ⟨_, rfl⟩
  rw [← hr]
  have hl1 := walkT_len 201 t [] 1
  unfold apartU at hr
  generalize walkT 201 t [] 1 = l at h23 hr hl1
  simp only [E.av, E.spots] at h23
  have hll := E.spot.len l
  have hlk : A.len (E.spot.l l) = (l.length : Int) := by rw [A.ok_len, hll]
  have hil : (spotIds l).length = l.length := by simp [spotIds]
  have hid : ∀ {j : Nat} {x : Tree × Nat}, l[j]? = some x → (spotIds l)[j]? = some x.1.id := fun h => by simp [spotIds, h]
  have hl200 : l.length ≤ 201 := hl1.2 (by simp)
  obtain ⟨i, k, s, ks⟩ := t
  rw [E.node] at h23 ⊢
  refine TPure.ofE A T0 (T0_ok hP) (hP ▸ Try.func20) rfl _ rfl (by simp) ?_
  cbv
  ((try cbv) <;> (repeat ((with_reducible refine EW.of ?_); cbv)))
  (refine ⟨Ent.of (hP ▸ Try.func15) rfl, ?_⟩; refine TC.pureE h23 ?_; cbv; (repeat (first | exact trivial | refine And.intro (Emb.Pur _ _) ?_ | refine And.intro rfl ?_ | refine And.intro (Pur.mk rfl) ?_ | refine And.intro (Pur.mk (by assumption)) ?_)); ((try cbv) <;> (repeat ((with_reducible refine EW.of ?_); cbv))))
  obtain ⟨S, hS⟩ : ∃ S : LI Nat, S = ⟨fun i => [(4, .int .i64 i), (3, .sl 5 (E.spot.l l)), (2, .bool false)], fun _ => [], fun i => i ≤ l.length ∧ ((spotIds l).take i).Nodup ∧ ((spotIds l).take i).all rngI = true, fun i => l.length - i⟩ := ⟨_, rfl⟩
  refine TW.loopM A (T0_ok hP) S 51 rfl 0 ?_ ?_ ?_
  · rw [hS]; exact ⟨Nat.zero_le _, List.nodup_nil, rfl⟩
  · rw [hS]; cbv; (repeat (first | exact trivial | refine And.intro (Emb.Pur _ _) ?_ | refine And.intro rfl ?_ | refine And.intro (Pur.mk rfl) ?_ | refine And.intro (Pur.mk (by assumption)) ?_))
  intro i hj l1 L1 e1 e2; rw [hS] at hj e1 e2; dsimp only at hj e1 e2; obtain ⟨hi, hnd, hrg⟩ := hj; subst e1 e2
  cbv
  ((try cbv) <;> (repeat ((with_reducible refine EW.of ?_); cbv)))
  refine bsplit (fun h => ?_) (fun h => ?_)
  · have h : i < l.length := lt_nt h rfl hlk
    obtain ⟨x, hx⟩ : ∃ x, l[i]? = some x := ⟨_, List.getElem?_eq_getElem (by omega)⟩
    have hxi := hid hx
    obtain ⟨⟨i1, k1, s1, ks1⟩, d1⟩ := x
    have hgx := E.gets hx
    replace hxi : (spotIds l)[i]? = some i1 := hxi
    have hout : rngI i1 = false → r = false := fun h => by
      rw [hr]
      have : (spotIds l).all rngI = false := by
        rw [Bool.eq_false_iff]
        intro h2
        rw [List.all_eq_true.1 h2 i1 (List.mem_of_getElem? hxi)] at h
        cases h
      rw [this]; simp
    ((try cbv) <;> (repeat ((with_reducible refine EW.of ?_); cbv)))
    (refine ⟨_, _, rfl, hgx, ?_⟩; cbv; ((try cbv) <;> (repeat ((with_reducible refine EW.of ?_); cbv))))
    refine bsplit (fun h2 => ?_) (fun h2 => ?_)
    · have h2 : i1 < 1 := lt_t h2 rfl rfl
      have hf := hout (by unfold rngI; rw [decide_eq_false (by omega)]; rfl)
      subst hf
      ((try cbv) <;> (repeat ((with_reducible refine EW.of ?_); cbv)))
    have h2 : 1 ≤ i1 := lt_f h2 rfl rfl
    ((try cbv) <;> (repeat ((with_reducible refine EW.of ?_); cbv)))
    (refine ⟨_, _, rfl, hgx, ?_⟩; cbv; ((try cbv) <;> (repeat ((with_reducible refine EW.of ?_); cbv))))
    refine bsplit (fun h3 => ?_) (fun h3 => ?_)
    · have h3 : 1125899906842624 < i1 := lt_t h3 rfl rfl
      have hf := hout (by unfold rngI; rw [decide_eq_false (p := i1 ≤ _) (by omega), Bool.and_false])
      subst hf
      ((try cbv) <;> (repeat ((with_reducible refine EW.of ?_); cbv)))
    have h3 : i1 ≤ 1125899906842624 := lt_f h3 rfl rfl
    have hin : rngI i1 = true := by unfold rngI; rw [decide_eq_true h2, decide_eq_true h3]; rfl
    clear hout
    ((try cbv) <;> (repeat ((with_reducible refine EW.of ?_); cbv)))
    obtain ⟨S2, hS2⟩ : ∃ S2 : LI Nat, S2 = ⟨fun k => [(5, .int .i64 k), (4, .int .i64 i), (3, .sl 5 (E.spot.l l)), (2, .bool false)], fun _ => [], fun k => k ≤ i ∧ i1 ∉ (spotIds l).take k, fun k => i - k⟩ := ⟨_, rfl⟩
    refine TW.loopM A (T0_ok hP) S2 51 rfl 0 ?_ ?_ ?_
    · rw [hS2]; exact ⟨Nat.zero_le _, by simp⟩
    · rw [hS2]; cbv; (repeat (first | exact trivial | refine And.intro (Emb.Pur _ _) ?_ | refine And.intro rfl ?_ | refine And.intro (Pur.mk rfl) ?_ | refine And.intro (Pur.mk (by assumption)) ?_))
    intro k hj l1 L1 e1 e2; rw [hS2] at hj e1 e2; dsimp only at hj e1 e2; obtain ⟨hk, hno⟩ := hj; subst e1 e2
    cbv
    ((try cbv) <;> (repeat ((with_reducible refine EW.of ?_); cbv)))
    refine bsplit (fun h4 => ?_) (fun h4 => ?_)
    · have h4 : k < i := lt_nt h4 rfl rfl
      obtain ⟨y, hy⟩ : ∃ y, l[k]? = some y := ⟨_, List.getElem?_eq_getElem (by omega)⟩
      have hyi := hid hy
      obtain ⟨⟨i2, k2, s2, ks2⟩, d2⟩ := y
      replace hyi : (spotIds l)[k]? = some i2 := hyi
      ((try cbv) <;> (repeat ((with_reducible refine EW.of ?_); cbv)))
      (refine TW.draw (A := A) (T0_ok hP) (hP ▸ follows_mixed) (by kernel_rfl) rfl ?_; cbv)
      refine ⟨i, _, rfl, hgx, ?_⟩
      cbv
      refine ⟨k, _, rfl, E.gets hy, ?_⟩
      cbv
      ((try cbv) <;> (repeat ((with_reducible refine EW.of ?_); cbv)))
      refine bsplit (fun h5 => ?_) (fun h5 => ?_)
      · have h5 : i1 = i2 := eq_t h5 rfl rfl
        subst h5
        have hf : r = false := by rw [hr, decide_eq_false (not_nodup h4 hxi hyi)]; rfl
        subst hf
        ((try cbv) <;> (repeat ((with_reducible refine EW.of ?_); cbv)))
      · have h5 : i1 ≠ i2 := eq_f h5 rfl rfl
        ((try cbv) <;> (repeat ((with_reducible refine EW.of ?_); cbv)))
        refine LM.of (k + 1) rfl ?_ ?_ ?_
        · rw [hS2]
          refine ⟨h4, ?_⟩
          rw [List.take_add_one, hyi]
          simp only [Option.toList_some, List.mem_append, List.mem_singleton, not_or]
          exact ⟨hno, h5⟩
        · rw [hS2]; show i - (k + 1) < i - k; omega
        · rw [hS2]; cbv
          refine ⟨inc_eq A (by omega), ?_⟩
          (repeat (first | exact trivial | refine And.intro (Emb.Pur _ _) ?_ | refine And.intro rfl ?_ | refine And.intro (Pur.mk rfl) ?_ | refine And.intro (Pur.mk (by assumption)) ?_))
    · have h4 : i ≤ k := lt_nf h4 rfl rfl
      obtain rfl : k = i := by omega
      ((try cbv) <;> (repeat ((with_reducible refine EW.of ?_); cbv)))
      refine LM.of (k + 1) rfl ?_ ?_ ?_
      · rw [hS]
        refine ⟨by omega, take_nodup hxi hnd hno, ?_⟩
        rw [List.take_add_one, hxi, List.all_append, hrg]
        simp [hin]
      · rw [hS]; show l.length - (k + 1) < l.length - k; omega
      · rw [hS]; cbv
        refine ⟨inc_eq A (by omega), ?_⟩
        (repeat (first | exact trivial | refine And.intro (Emb.Pur _ _) ?_ | refine And.intro rfl ?_ | refine And.intro (Pur.mk rfl) ?_ | refine And.intro (Pur.mk (by assumption)) ?_))
  · have h : l.length ≤ i := lt_nf h rfl hlk
    rw [List.take_of_length_le (by omega)] at hnd hrg
    have ht : r = decide (l.length ≤ 200) := by rw [hr, decide_eq_true hnd, hrg]; rfl
    ((try cbv) <;> (repeat ((with_reducible refine EW.of ?_); cbv)))
    refine ⟨?_, trivial⟩
    show A.le (A.len (E.spot.l l)) 200 = r
    rw [ht, hlk, A.ok_le]
    exact decide_eq_decide.2 ⟨fun h => Int.ofNat_le.1 h, fun h => Int.ofNat_le.2 h⟩
end Go.Proofs.Ytaieiigfheabfaa

/-! some and wakes of law10. -/
namespace Go.Proofs.Ytaieiigfheabfaa
open Go.Proofs.Ytaieiigfheabfaa.Tw
def leaf (i : Int) : Tree := .node i 0 ⟨#[]⟩ []
def sT : Tree := .node 1 0 ⟨#[]⟩ [leaf 2, .node 3 0 ⟨#[]⟩ [leaf 4]]
/-- Nodes whose kids say no less. -/
inductive NSub : AV → AV → Prop
  | mk (i k s : AV) {x y : AV} (h : Tw.Sub x y) : NSub (.agg [i, k, s, x]) (.agg [i, k, s, y])
inductive NSubs : List AV → List AV → Prop
  | nil : NSubs [] []
  | cons {a b : AV} {xs ys : List AV} (h : NSub a b) (k : NSubs xs ys) : NSubs (a :: xs) (b :: ys)
theorem NSubs.len {xs ys : List AV} (h : NSubs xs ys) : xs.length = ys.length := by induction h with | nil => rfl | cons _ _ ih => simp [ih]
theorem NSubs.get {xs ys : List AV} (h : NSubs xs ys) : ∀ (i : Nat) (b : AV), ys[i]? = some b → ∃ a, xs[i]? = some a ∧ NSub a b := by
  induction h with
  | nil => intro i b h; simp at h
  | cons h k ih =>
    intro i b hb
    cases i with
    | zero => simp at hb; subst hb; exact ⟨_, rfl, h⟩
    | succ i => simpa using ih i b (by simpa using hb)
theorem Sub.kids {els els' : List AV} (h : NSubs els els') : Tw.Sub (.slt 4 els) (.sl 4 els') := fun w I ρ v hv => by
  have hl := h.len
  cases hv with
  | slt a A n _ _ vs hn ha hw hc hr =>
    refine .sl a A n n 4 els' vs (hn.trans hl) (Nat.le_refl _) (ha.imp (fun e => by subst e; exact List.eq_nil_of_length_eq_zero (by simpa using hl.symm)) id) (fun e he => ?_) (fun i j hi hj => hc i j (by omega) hj) (fun i e j c he hc' => ?_)
    · obtain ⟨i, hi⟩ := List.getElem?_of_mem he
      obtain ⟨a', _, hn⟩ := h.get i e hi
      cases hn
      rfl
    · obtain ⟨a', ha', hn⟩ := h.get i e he
      cases hn with
      | mk p q r hx =>
        match j, hc' with
        | 0, hc' => cases hc'; exact hr i _ 0 _ ha' rfl
        | 1, hc' => cases hc'; exact hr i _ 1 _ ha' rfl
        | 2, hc' => cases hc'; exact hr i _ 2 _ ha' rfl
        | 3, hc' => cases hc'; exact hx w I ρ _ (hr i _ 3 _ ha' rfl)
        | j + 4, hc' => simp [AV.cells] at hc'
theorem NSub.sub {a b : AV} (h : NSub a b) : Tw.Sub a b := by
  cases h with
  | mk i k s hx =>
    exact Sub.agg rfl fun j c d hc hd => by
      match j, hc, hd with
      | 0, hc, hd => cases hc; cases hd; exact Sub.refl _
      | 1, hc, hd => cases hc; cases hd; exact Sub.refl _
      | 2, hc, hd => cases hc; cases hd; exact Sub.refl _
      | 3, hc, hd => cases hc; cases hd; exact hx
      | j + 4, hc, hd => simp at hc
theorem some33 (A : Ar) {P : Program} (hP : P = Try.prog) : TPure P 33 [] sT.av := by
  refine TPure.of (TC.of_ewp A T0 (T0_ok hP) (hP ▸ Try.func33) rfl _ rfl (by simp) ?_)
  cbv
  ((try cbv) <;> (repeat ((with_reducible refine EW.of ?_); cbv)))
  refine ⟨_, _, VSV.trans (VSV.sub (v' := sT.av) ?_) (VSV.pure (sT.av_pur)), rfl, rfl⟩
  exact (NSub.mk _ _ _ (Sub.kids (.cons (.mk _ _ _ (Sub.nils 4)) (.cons (.mk _ _ _ (Sub.kids (.cons (.mk _ _ _ (Sub.nils 4)) .nil))) .nil)))).sub
theorem within_sT : within 3 sT := by
  simp only [sT, leaf, within]
  refine ⟨by decide, fun t ht => ?_⟩
  rcases List.mem_cons.1 ht with rfl | ht
  · exact ⟨by decide, fun t ht => by cases ht⟩
  · rcases List.mem_cons.1 ht with rfl | ht
    · refine ⟨by decide, fun t ht => ?_⟩
      rcases List.mem_cons.1 ht with rfl | ht
      · exact ⟨by decide, fun t ht => by cases ht⟩
      · cases ht
    · cases ht
theorem within_noT {n : Nat} : within (n + 1) noT := ⟨by decide, fun t ht => by cases ht⟩
set_option maxRecDepth 100000 in
theorem invA : invR sT ⟨2, 3, 0, 0, ⟨#[]⟩, noT⟩ = (⟨1, 0, 1, 1, ⟨#[]⟩, .node 3 0 ⟨#[]⟩ [leaf 4]⟩, 0) := by rfl
set_option maxRecDepth 100000 in
theorem invB : invR sT ⟨3, 2, 3, 1, ⟨#[]⟩, noT⟩ = (⟨3, 2, 1, 0, ⟨#[]⟩, noT⟩, 0) := by rfl
set_option maxHeartbeats 4000000 in
theorem wakes21 (A : Ar) (E : Em) (F : EmS) {P : Program} (hP : P = Try.prog) : TPure P 21 [] (.bool true) := by
  have h33 := some33 A hP
  have hA := Invert23 A E F hP 2 (by decide) sT within_sT ⟨2, 3, 0, 0, ⟨#[]⟩, noT⟩ within_noT (by decide)
  have hB := Invert23 A E F hP 2 (by decide) sT within_sT ⟨3, 2, 3, 1, ⟨#[]⟩, noT⟩ within_noT (by decide)
  rw [invA] at hA
  rw [invB] at hB
  rw [noT_v E F] at hA hB
  dsimp only at hA hB
  rw [noT_v E F] at hB
  rw [F.v E] at hA
  rw [E.av] at h33
  obtain ⟨K, hK⟩ : ∃ K, K = [leaf 2, .node 3 0 ⟨#[]⟩ [leaf 4]] := ⟨_, rfl⟩
  have hT : sT = .node 1 0 ⟨#[]⟩ K := by rw [hK]; rfl
  rw [hT, E.node] at h33 hA hB
  obtain ⟨K4, hK4⟩ : ∃ K, K = [leaf 4] := ⟨_, rfl⟩
  rw [← hK4] at hA
  have hl4 : A.len (E.tree.l K4) = (1 : Int) := by rw [A.ok_len, E.tree.len, hK4]; rfl
  clear hK hT hK4
  refine TPure.ofE A T0 (T0_ok hP) (hP ▸ Try.func21) rfl _ rfl (by simp) ?_
  cbv
  ((try cbv) <;> (repeat ((with_reducible refine EW.of ?_); cbv)))
  (refine ⟨Ent.of (hP ▸ Try.func33) rfl, ?_⟩; refine TC.pureE h33 ?_; cbv; (repeat (first | exact trivial | refine And.intro (Emb.Pur _ _) ?_ | refine And.intro rfl ?_ | refine And.intro (Pur.mk rfl) ?_ | refine And.intro (Pur.mk (by assumption)) ?_)); ((try cbv) <;> (repeat ((with_reducible refine EW.of ?_); cbv))))
  (refine ⟨Ent.of (hP ▸ Try.func23) rfl, ?_⟩; refine TC.pureE hA ?_; cbv; (repeat (first | exact trivial | refine And.intro (Emb.Pur _ _) ?_ | refine And.intro rfl ?_ | refine And.intro (Pur.mk rfl) ?_ | refine And.intro (Pur.mk (by assumption)) ?_)); ((try cbv) <;> (repeat ((with_reducible refine EW.of ?_); cbv))))
  (refine ⟨Ent.of (hP ▸ Try.func33) rfl, ?_⟩; refine TC.pureE h33 ?_; cbv; (repeat (first | exact trivial | refine And.intro (Emb.Pur _ _) ?_ | refine And.intro rfl ?_ | refine And.intro (Pur.mk rfl) ?_ | refine And.intro (Pur.mk (by assumption)) ?_)); ((try cbv) <;> (repeat ((with_reducible refine EW.of ?_); cbv))))
  (refine ⟨Ent.of (hP ▸ Try.func23) rfl, ?_⟩; refine TC.pureE hB ?_; cbv; (repeat (first | exact trivial | refine And.intro (Emb.Pur _ _) ?_ | refine And.intro rfl ?_ | refine And.intro (Pur.mk rfl) ?_ | refine And.intro (Pur.mk (by assumption)) ?_)); ((try cbv) <;> (repeat ((with_reducible refine EW.of ?_); cbv))))
  (first | refine byes (eqT rfl) ?_ | refine byes (beqT rfl) ?_)
  ((try cbv) <;> (repeat ((with_reducible refine EW.of ?_); cbv)))
  (first | refine byes (eqT rfl) ?_ | refine byes (beqT rfl) ?_)
  ((try cbv) <;> (repeat ((with_reducible refine EW.of ?_); cbv)))
  (first | refine byes (eqT rfl) ?_ | refine byes (beqT rfl) ?_)
  ((try cbv) <;> (repeat ((with_reducible refine EW.of ?_); cbv)))
  (first | refine byes (eqT rfl) ?_ | refine byes (beqT rfl) ?_)
  ((try cbv) <;> (repeat ((with_reducible refine EW.of ?_); cbv)))
  (first | refine byes (eqT rfl) ?_ | refine byes (beqT rfl) ?_)
  ((try cbv) <;> (repeat ((with_reducible refine EW.of ?_); cbv)))
  refine byes (show A.eq (A.len (E.tree.l K4)) 1 = true by rw [hl4, A.ok_eq]; rfl) ?_
  cbv
  ((try cbv) <;> (repeat ((with_reducible refine EW.of ?_); cbv)))
  (first | refine byes (eqT rfl) ?_ | refine byes (beqT rfl) ?_)
  ((try cbv) <;> (repeat ((with_reducible refine EW.of ?_); cbv)))
  (first | refine byes (eqT rfl) ?_ | refine byes (beqT rfl) ?_)
  ((try cbv) <;> (repeat ((with_reducible refine EW.of ?_); cbv)))
  (first | refine byes (eqT rfl) ?_ | refine byes (beqT rfl) ?_)
  ((try cbv) <;> (repeat ((with_reducible refine EW.of ?_); cbv)))
  (first | refine byes (eqT rfl) ?_ | refine byes (beqT rfl) ?_)
  ((try cbv) <;> (repeat ((with_reducible refine EW.of ?_); cbv)))
  exact ⟨show A.eq 0 0 = true by rw [A.ok_eq]; rfl, trivial⟩
end Go.Proofs.Ytaieiigfheabfaa

/-! Trees with a place in them: plain. -/
namespace Go.Proofs.Ytaieiigfheabfaa
open Go.Proofs.Ytaieiigfheabfaa.Tw
inductive Ctx
  | hole
  | node (i k : Int) (s : ByteArray) (l : List Tree) (c : Ctx) (r : List Tree)
namespace Ctx
def fill : Ctx → Tree → Tree
  | .hole, u => u
  | .node i k s l c r, u => .node i k s (l ++ c.fill u :: r)
def ids : Ctx → List Int
  | .hole => []
  | .node i _ _ l c r => i :: (idsK l ++ (c.ids ++ idsK r))
def path : Ctx → List Int
  | .hole => []
  | .node _ _ _ l c _ => (l.length : Int) :: c.path
end Ctx
theorem idsK_app : ∀ (l r : List Tree), idsK (l ++ r) = idsK l ++ idsK r
  | [], r => rfl
  | t :: l, r => by rw [List.cons_append, idsK, idsK, idsK_app l r, List.append_assoc]
theorem id_mem (t : Tree) : t.id ∈ idsT t := by cases t; rw [idsT]; exact List.mem_cons_self ..
theorem id_ne {id : Int} {t : Tree} (h : id ∉ idsT t) : t.id ≠ id := fun e => h (by rw [← e]; exact id_mem t)
theorem fill_perm : ∀ (c : Ctx) (u : Tree), (idsT (c.fill u)).Perm (c.ids ++ idsT u)
  | .hole, u => List.Perm.refl _
  | .node i k s l c r, u => by
    rw [Ctx.fill, idsT, Ctx.ids, idsK_app, idsK, List.cons_append]
    refine List.Perm.cons _ ?_
    rw [List.append_assoc]
    refine List.Perm.append_left _ ?_
    refine ((fill_perm c u).append_right _).trans ?_
    rw [List.append_assoc, List.append_assoc]
    exact List.Perm.append_left _ List.perm_append_comm
mutual
theorem find_none {id : Int} : ∀ {t : Tree}, id ∉ idsT t → findTr id t = none
  | .node i k s ks, h => by
    rw [idsT, List.mem_cons, not_or] at h
    rw [findTr, if_neg (fun e => h.1 e.symm)]
    exact finds_none h.2
theorem finds_none {id : Int} : ∀ {ts : List Tree}, id ∉ idsK ts → findTrs id ts = none
  | [], _ => rfl
  | t :: ts, h => by
    rw [idsK, List.mem_append, not_or] at h
    rw [findTrs, find_none h.1]
    exact finds_none h.2
end
theorem finds_app {id : Int} {x : Tree} {r : List Tree} : ∀ {l : List Tree}, id ∉ idsK l → id ∉ idsK r → findTrs id (l ++ x :: r) = findTr id x
  | [], _, hr => by
    rw [List.nil_append, findTrs, finds_none hr]
    cases findTr id x <;> rfl
  | t :: l, h, hr => by
    rw [idsK, List.mem_append, not_or] at h
    rw [List.cons_append, findTrs, find_none h.1]
    exact finds_app h.2 hr
theorem find_fill {id : Int} {u : Tree} : ∀ {c : Ctx}, id ∉ c.ids → findTr id (c.fill u) = findTr id u
  | .hole, _ => rfl
  | .node i k s l c r, h => by
    simp only [Ctx.ids, List.mem_cons, List.mem_append, not_or] at h
    rw [Ctx.fill, findTr, if_neg (fun e => h.1 e.symm), finds_app h.2.1 h.2.2.2, find_fill h.2.2.1]
theorem find_self {t : Tree} : findTr t.id t = some t := by cases t; rw [findTr]; exact if_pos rfl
mutual
theorem find_ctx {id : Int} {u : Tree} : ∀ {t : Tree}, findTr id t = some u → ∃ c : Ctx, t = c.fill u ∧ u.id = id
  | .node i k s ks, h => by
    rw [findTr] at h
    split at h
    · rename_i hi
      cases h
      exact ⟨.hole, rfl, hi⟩
    · obtain ⟨l, c, r, rfl, hu⟩ := finds_ctx h
      exact ⟨.node i k s l c r, rfl, hu⟩
theorem finds_ctx {id : Int} {u : Tree} : ∀ {ts : List Tree}, findTrs id ts = some u → ∃ (l : List Tree) (c : Ctx) (r : List Tree), ts = l ++ c.fill u :: r ∧ u.id = id
  | [], h => by rw [findTrs] at h; cases h
  | t :: ts, h => by
    rw [findTrs] at h
    cases hf : findTr id t with
    | some v =>
      rw [hf] at h
      cases h
      obtain ⟨c, rfl, hu⟩ := find_ctx hf
      exact ⟨[], c, ts, rfl, hu⟩
    | none =>
      rw [hf] at h
      obtain ⟨l, c, r, rfl, hu⟩ := finds_ctx h
      exact ⟨t :: l, c, r, rfl, hu⟩
end
/-- In a tree whose ids are all different a node found is found nowhere else. -/
theorem find_split {id : Int} {t u : Tree} (hn : (idsT t).Nodup) (h : findTr id t = some u) : ∃ c : Ctx, t = c.fill u ∧ u.id = id ∧ id ∉ c.ids ∧ (c.ids ++ idsT u).Nodup := by
  obtain ⟨c, rfl, hu⟩ := find_ctx h
  have hn2 := (fill_perm c u).nodup_iff.1 hn
  exact ⟨c, rfl, hu, fun hc => (List.nodup_append.1 hn2).2.2 id hc id (hu ▸ id_mem u) rfl, hn2⟩
theorem hasT_iff {id : Int} {t : Tree} : hasT id t = true ↔ id ∈ idsT t := by unfold hasT; exact decide_eq_true_iff
theorem mods_app {id : Int} {v x : Tree} {r : List Tree} (hx : id ∈ idsT x) : ∀ {l : List Tree}, id ∉ idsK l → modTs id v (l ++ x :: r) = l ++ modT id v x :: r
  | [], _ => by rw [List.nil_append, modTs, if_pos (hasT_iff.2 hx)]; rfl
  | t :: l, h => by
    rw [idsK, List.mem_append, not_or] at h
    rw [List.cons_append, modTs, if_neg (fun e => h.1 (hasT_iff.1 e)), mods_app hx h.2]
    rfl
theorem mod_fill {id : Int} {u v : Tree} (hu : u.id = id) : ∀ {c : Ctx}, id ∉ c.ids → modT id v (c.fill u) = c.fill v
  | .hole, _ => by
    cases u
    rw [Ctx.fill, modT]; exact if_pos hu
  | .node i k s l c r, h => by
    simp only [Ctx.ids, List.mem_cons, List.mem_append, not_or] at h
    have hm : id ∈ idsT (c.fill u) := (fill_perm c u).mem_iff.2 (List.mem_append_right _ (hu ▸ id_mem u))
    rw [Ctx.fill, modT, if_neg (fun e => h.1 e.symm), mods_app hm h.2.1, mod_fill hu h.2.2.1]
    rfl
mutual
theorem take_none {id : Int} : ∀ {t : Tree}, id ∉ idsT t → takeT id t = none
  | .node i k s ks, h => by
    rw [idsT, List.mem_cons, not_or] at h
    rw [takeT, takes_none h.2]; rfl
theorem takes_none {id : Int} : ∀ {ts : List Tree}, id ∉ idsK ts → takeTs id ts = none
  | [], _ => rfl
  | t :: ts, h => by
    rw [idsK, List.mem_append, not_or] at h
    rw [takeTs, if_neg (id_ne h.1), take_none h.1, takes_none h.2]; rfl
end
theorem takes_hit {id : Int} {u : Tree} {r : List Tree} (hu : u.id = id) : ∀ {l : List Tree}, id ∉ idsK l → takeTs id (l ++ u :: r) = some (u, l ++ r)
  | [], _ => by rw [List.nil_append, takeTs, if_pos hu]; rfl
  | t :: l, h => by
    rw [idsK, List.mem_append, not_or] at h
    rw [List.cons_append, takeTs, if_neg (id_ne h.1), take_none h.1, takes_hit hu h.2]; rfl
theorem takes_deep {id : Int} {x y u : Tree} {r : List Tree} (hx : x.id ≠ id) (ht : takeT id x = some (u, y)) : ∀ {l : List Tree}, id ∉ idsK l → takeTs id (l ++ x :: r) = some (u, l ++ y :: r)
  | [], _ => by rw [List.nil_append, takeTs, if_neg hx, ht]; rfl
  | t :: l, h => by
    rw [idsK, List.mem_append, not_or] at h
    rw [List.cons_append, takeTs, if_neg (id_ne h.1), take_none h.1, takes_deep hx ht h.2]; rfl
theorem fill_id {id : Int} {u : Tree} (hu : u.id ≠ id) : ∀ {c : Ctx}, id ∉ c.ids → (c.fill u).id ≠ id
  | .hole, _ => hu
  | .node i k s l c r, h => by
    simp only [Ctx.ids, List.mem_cons, not_or] at h
    exact fun e => h.1 e.symm
theorem take_fill {id : Int} {u : Tree} {i k : Int} {s : ByteArray} {l r : List Tree} (hu : u.id = id) (hi : i ≠ id) (hl : id ∉ idsK l) : ∀ {c : Ctx}, id ∉ c.ids → takeT id (c.fill (.node i k s (l ++ u :: r))) = some (u, c.fill (.node i k s (l ++ r)))
  | .hole, _ => by rw [Ctx.fill, takeT, takes_hit hu hl]; rfl
  | .node i' k' s' l' c r', h => by
    have h0 := h
    simp only [Ctx.ids, List.mem_cons, List.mem_append, not_or] at h
    rw [Ctx.fill, takeT, takes_deep (fill_id (u := .node i k s (l ++ u :: r)) hi h.2.2.1) (take_fill hu hi hl h.2.2.1) h.2.1]; rfl
/-- The lowest node of a place that is not the root. -/
theorem ctx_last : ∀ (c : Ctx), c = .hole ∨ ∃ (c' : Ctx) (i k : Int) (s : ByteArray) (l r : List Tree), (∀ u, c.fill u = c'.fill (.node i k s (l ++ u :: r))) ∧ c.ids.Perm (c'.ids ++ (i :: (idsK l ++ idsK r))) ∧ c.path = c'.path ++ [(l.length : Int)]
  | .hole => .inl rfl
  | .node i k s l c r => by
    rcases ctx_last c with rfl | ⟨c', i', k', s', l', r', h1, h2, h3⟩
    · exact .inr ⟨.hole, i, k, s, l, r, fun u => rfl, List.Perm.refl _, rfl⟩
    · refine .inr ⟨.node i k s l c' r, i', k', s', l', r', fun u => by rw [Ctx.fill, Ctx.fill, h1], ?_, by rw [Ctx.path, h3]; rfl⟩
      rw [Ctx.ids, Ctx.ids, List.cons_append]
      refine List.Perm.cons _ ?_
      rw [List.append_assoc]
      refine List.Perm.append_left _ ?_
      refine (h2.append_right _).trans ?_
      rw [List.append_assoc, List.append_assoc]
      exact List.Perm.append_left _ List.perm_append_comm
mutual
theorem path_none {id : Int} : ∀ {t : Tree}, id ∉ idsT t → pathT id t = none
  | .node i k s ks, h => by
    rw [idsT, List.mem_cons, not_or] at h
    rw [pathT, if_neg (fun e => h.1 e.symm), paths_none h.2 0]
theorem paths_none {id : Int} : ∀ {ts : List Tree}, id ∉ idsK ts → ∀ n, pathK id ts n = none
  | [], _, _ => rfl
  | t :: ts, h, n => by
    rw [idsK, List.mem_append, not_or] at h
    rw [pathK, path_none h.1]
    exact paths_none h.2 (n + 1)
end
theorem paths_app {id : Int} {x : Tree} {p : List Int} {r : List Tree} (hp : pathT id x = some p) : ∀ {l : List Tree} (n : Nat), id ∉ idsK l → pathK id (l ++ x :: r) n = some (((n + l.length : Nat) : Int) :: p)
  | [], n, _ => by rw [List.nil_append, pathK, hp]; rfl
  | t :: l, n, h => by
    rw [idsK, List.mem_append, not_or] at h
    rw [List.cons_append, pathK, path_none h.1]
    show pathK id (l ++ x :: r) (n + 1) = _
    rw [paths_app hp (n + 1) h.2, List.length_cons, show n + 1 + l.length = n + (l.length + 1) from by omega]
theorem path_fill {id : Int} {u : Tree} (hu : u.id = id) : ∀ {c : Ctx}, id ∉ c.ids → pathT id (c.fill u) = some c.path
  | .hole, _ => by cases u; rw [Ctx.fill, pathT]; exact if_pos hu
  | .node i k s l c r, h => by
    simp only [Ctx.ids, List.mem_cons, List.mem_append, not_or] at h
    rw [Ctx.fill, pathT, if_neg (fun e => h.1 e.symm), paths_app (path_fill hu h.2.2.1) 0 h.2.1, Nat.zero_add, Ctx.path]
theorem at_fill {u : Tree} : ∀ {c : Ctx}, atT (c.fill u) c.path = some u
  | .hole => by cases u; rfl
  | .node i k s l c r => by
    rw [Ctx.fill, Ctx.path, atT, if_neg (by omega), Int.toNat_natCast, List.getElem?_append_right (Nat.le_refl _), Nat.sub_self]
    exact at_fill
theorem parent_fill {id : Int} {u : Tree} {i k : Int} {s : ByteArray} {l r : List Tree} (hu : u.id = id) (hi : i ≠ id) (hl : id ∉ idsK l) {c : Ctx} (hc : id ∉ c.ids) : parentS (c.fill (.node i k s (l ++ u :: r))) id = (i, (l.length : Int), true) := by
  have hp : pathT id (c.fill (.node i k s (l ++ u :: r))) = some (c.path ++ [(l.length : Int)]) := by
    have aux : ∀ {c : Ctx}, id ∉ c.ids → pathT id (c.fill (.node i k s (l ++ u :: r))) = some (c.path ++ [(l.length : Int)]) := fun {c} => by
      induction c with
      | hole =>
        intro _
        have h0 : pathT id u = some [] := by cases u; rw [pathT]; exact if_pos hu
        rw [Ctx.fill, pathT, if_neg hi, paths_app h0 0 hl, Nat.zero_add]; rfl
      | node i' k' s' l' c r' ih =>
        intro h
        simp only [Ctx.ids, List.mem_cons, List.mem_append, not_or] at h
        rw [Ctx.fill, pathT, if_neg (fun e => h.1 e.symm), paths_app (ih h.2.2.1) 0 h.2.1, Nat.zero_add, Ctx.path]; rfl
    exact aux hc
  unfold parentS
  rw [hp]
  have key : ∀ (q : List Int) (j : Int) (a : Int) (q' : List Int), q ++ [j] = a :: q' → q'.length = q.length ∧ (a :: q')[q'.length]? = some j ∧ (a :: q').take q'.length = q := fun q j a q' h => by
    have hl : q'.length = q.length := by have := congrArg List.length h; simp at this; omega
    refine ⟨hl, ?_, ?_⟩
    · rw [← h, hl]; simp
    · rw [← h, hl]; simp
  cases hq : c.path ++ [(l.length : Int)] with
  | nil => simp at hq
  | cons a q' =>
    obtain ⟨h1, h2, h3⟩ := key _ _ _ _ hq
    show ((upT _ (a :: q') q'.length).id, ((a :: q')[q'.length]?).getD 0, true) = _
    rw [h2, upT, h3, at_fill]
    rfl
end Go.Proofs.Ytaieiigfheabfaa

/-! The ids of what is put in: plain. -/
namespace Go.Proofs.Ytaieiigfheabfaa
open Go.Proofs.Ytaieiigfheabfaa.Tw
def rgI (i : Int) : Prop := 1 ≤ i ∧ i ≤ 1125899906842624
def idL (T : Tree) : List Int → List Int × Bool → List Int × Bool
  | [], st => st
  | i :: is, st => idL T is (addI i st.1, st.2 || (decide (i ∈ st.1) || hasT i T))
theorem idL_app (T : Tree) : ∀ (a b : List Int) (st : List Int × Bool), idL T (a ++ b) st = idL T b (idL T a st)
  | [], b, st => rfl
  | i :: a, b, st => by rw [List.cons_append, idL, idL, idL_app T a b]
mutual
theorem idF_eq (T : Tree) : ∀ (u : Tree) (seen : List Int) (tw : Bool), (∀ i ∈ idsT u, rgI i) → idF T seen tw u = ((idL T (idsT u) (seen, tw)).1, (idL T (idsT u) (seen, tw)).2, true)
  | .node i k s ks, seen, tw, h => by
    have h1 := h i (by rw [idsT]; exact List.mem_cons_self ..)
    rw [idF, if_neg (by unfold rgI at h1; omega), idsT, idL]
    exact idFs_eq T ks _ _ fun j hj => h j (by rw [idsT]; exact List.mem_cons_of_mem _ hj)
theorem idFs_eq (T : Tree) : ∀ (us : List Tree) (seen : List Int) (tw : Bool), (∀ i ∈ idsK us, rgI i) → idFs T seen tw us = ((idL T (idsK us) (seen, tw)).1, (idL T (idsK us) (seen, tw)).2, true)
  | [], seen, tw, _ => rfl
  | u :: us, seen, tw, h => by
    have h1 := idF_eq T u seen tw fun j hj => h j (by rw [idsK]; exact List.mem_append_left _ hj)
    have h2 := fun a b => idFs_eq T us a b fun j hj => h j (by rw [idsK]; exact List.mem_append_right _ hj)
    rw [idFs, h1, if_pos rfl, h2, idsK, idL_app]
end
mutual
theorem idF_rg (T : Tree) : ∀ (u : Tree) (seen : List Int) (tw : Bool), (idF T seen tw u).2.2 = true → ∀ i ∈ idsT u, rgI i
  | .node i k s ks, seen, tw, h => by
    rw [idF] at h
    split at h
    · cases h
    · rename_i hi
      intro j hj
      rw [idsT] at hj
      rcases List.mem_cons.1 hj with rfl | hj
      · unfold rgI; omega
      · exact idFs_rg T ks _ _ h j hj
theorem idFs_rg (T : Tree) : ∀ (us : List Tree) (seen : List Int) (tw : Bool), (idFs T seen tw us).2.2 = true → ∀ i ∈ idsK us, rgI i
  | [], seen, tw, _ => fun i hi => by cases hi
  | u :: us, seen, tw, h => by
    rw [idFs] at h
    split at h
    · rename_i hu
      intro j hj
      rw [idsK] at hj
      rcases List.mem_append.1 hj with hj | hj
      · exact idF_rg T u _ _ hu j hj
      · exact idFs_rg T us _ _ h j hj
    · rename_i hu; exact absurd h hu
end
theorem addI_mem {i j : Int} {seen : List Int} : j ∈ addI i seen ↔ j = i ∨ j ∈ seen := by
  unfold addI
  split
  · rename_i h
    exact ⟨.inr, fun h2 => h2.elim (fun e => e ▸ h) id⟩
  · simp [or_comm]
theorem idL_iff (T : Tree) : ∀ (l : List Int) (seen : List Int) (tw : Bool), (idL T l (seen, tw)).2 = false ↔ tw = false ∧ l.Nodup ∧ ∀ i ∈ l, i ∉ seen ∧ i ∉ idsT T
  | [], seen, tw => by simp [idL]
  | i :: l, seen, tw => by
    rw [idL, idL_iff T l]
    simp only [Bool.or_eq_false_iff, decide_eq_false_iff_not, addI_mem, List.nodup_cons, List.mem_cons, not_or]
    have hh : hasT i T = false ↔ i ∉ idsT T := by rw [← hasT_iff]; simp
    rw [hh]
    constructor
    · rintro ⟨⟨h1, h2, h3⟩, h4, h5⟩
      refine ⟨h1, ⟨fun hi => (h5 i hi).1.1 rfl, h4⟩, fun j hj => ?_⟩
      rcases hj with rfl | hj
      · exact ⟨h2, h3⟩
      · exact ⟨(h5 j hj).1.2, (h5 j hj).2⟩
    · rintro ⟨h1, ⟨h2, h3⟩, h4⟩
      exact ⟨⟨h1, h4 i (.inl rfl)⟩, h3, fun j hj => ⟨⟨fun e => h2 (e ▸ hj), (h4 j (.inr hj)).1⟩, (h4 j (.inr hj)).2⟩⟩
theorem ids_ok {T u : Tree} : ((idF T [] false u).2.2 = true ∧ (idF T [] false u).2.1 = false) ↔ (∀ i ∈ idsT u, rgI i) ∧ (idsT u).Nodup ∧ ∀ i ∈ idsT u, i ∉ idsT T := by
  constructor
  · rintro ⟨h1, h2⟩
    have hr := idF_rg T u [] false h1
    rw [idF_eq T u [] false hr] at h2
    have := (idL_iff T _ _ _).1 h2
    exact ⟨hr, this.2.1, fun i hi => (this.2.2 i hi).2⟩
  · rintro ⟨hr, h1, h2⟩
    rw [idF_eq T u [] false hr]
    exact ⟨rfl, (idL_iff T _ _ _).2 ⟨rfl, h1, fun i hi => ⟨by simp, h2 i hi⟩⟩⟩
mutual
theorem size_ids : ∀ t : Tree, sizeT t = (idsT t).length
  | .node i k s ks => by rw [sizeT, idsT, List.length_cons, sizeK_ids ks]
theorem sizeK_ids : ∀ ts : List Tree, sizeK ts = (idsK ts).length
  | [] => rfl
  | t :: ts => by rw [sizeK, idsK, List.length_append, size_ids t, sizeK_ids ts]
end
mutual
theorem find_mem {id : Int} : ∀ {t : Tree}, id ∈ idsT t → (findTr id t).isSome = true
  | .node i k s ks, h => by
    rw [findTr]
    split
    · rfl
    · rename_i hi
      rw [idsT] at h
      rcases List.mem_cons.1 h with h | h
      · exact absurd h.symm hi
      · exact finds_mem h
theorem finds_mem {id : Int} : ∀ {ts : List Tree}, id ∈ idsK ts → (findTrs id ts).isSome = true
  | [], h => by cases h
  | t :: ts, h => by
    rw [findTrs]
    rw [idsK] at h
    cases hf : findTr id t with
    | some u => rfl
    | none =>
      rcases List.mem_append.1 h with h | h
      · have := find_mem h
        rw [hf] at this
        cases this
      · exact finds_mem h
end
/-- A place among a node's kids. -/
structure Slot where
  c : Ctx
  i : Int
  k : Int
  s : ByteArray
  l : List Tree
  r : List Tree
def Slot.w (S : Slot) : Tree := S.c.fill (.node S.i S.k S.s (S.l ++ S.r))
def Slot.t (S : Slot) (u : Tree) : Tree := S.c.fill (.node S.i S.k S.s (S.l ++ u :: S.r))
theorem Slot.perm0 (S : Slot) : (idsT S.w).Perm (S.c.ids ++ (S.i :: (idsK S.l ++ idsK S.r))) := by
  refine (fill_perm _ _).trans ?_
  rw [idsT, idsK_app]
theorem Slot.perm1 (S : Slot) (u : Tree) : (idsT (S.t u)).Perm ((S.c.ids ++ (S.i :: (idsK S.l ++ idsK S.r))) ++ idsT u) := by
  refine (fill_perm _ _).trans ?_
  rw [idsT, idsK_app, idsK, List.append_assoc]
  refine List.Perm.append_left _ ?_
  rw [List.cons_append]
  refine List.Perm.cons _ ?_
  rw [List.append_assoc]
  exact List.Perm.append_left _ List.perm_append_comm
theorem Slot.perm (S : Slot) (u : Tree) : (idsT (S.t u)).Perm (idsT S.w ++ idsT u) := (S.perm1 u).trans (S.perm0.symm.append_right _)
end Go.Proofs.Ytaieiigfheabfaa

/-! What the steps do at a place: plain. -/
namespace Go.Proofs.Ytaieiigfheabfaa
open Go.Proofs.Ytaieiigfheabfaa.Tw
namespace Slot
variable {S : Slot} {u : Tree}
theorem sep (hN : (idsT (S.t u)).Nodup) : u.id ∉ S.c.ids ∧ S.i ≠ u.id ∧ u.id ∉ idsK S.l ∧ u.id ∉ idsK S.r ∧ S.i ∉ S.c.ids ∧ S.i ∉ idsT u := by
  have h := List.nodup_append.1 ((S.perm1 u).nodup_iff.1 hN)
  have h0 := List.nodup_append.1 h.1
  have hu := id_mem u
  have hx : ∀ x ∈ S.c.ids ++ (S.i :: (idsK S.l ++ idsK S.r)), x ∉ idsT u := fun x hx hy => h.2.2 x hx x hy rfl
  refine ⟨fun e => hx _ (List.mem_append_left _ e) hu, fun e => hx S.i (by simp) (by rw [e]; exact hu), fun e => hx _ (by simp [e]) hu, fun e => hx _ (by simp [e]) hu, fun e => h0.2.2 _ e S.i (by simp) rfl, hx _ (by simp)⟩
theorem find (hN : (idsT (S.t u)).Nodup) : findTr u.id (S.t u) = some u := by
  obtain ⟨h1, h2, h3, h4, _⟩ := sep hN
  rw [Slot.t, find_fill h1, findTr, if_neg h2, finds_app h3 h4, find_self]
theorem root (hN : (idsT (S.t u)).Nodup) : (S.t u).id ≠ u.id := by
  obtain ⟨h1, h2, h3, h4, _⟩ := sep hN
  exact fill_id (u := .node S.i S.k S.s (S.l ++ u :: S.r)) h2 h1
theorem take (hN : (idsT (S.t u)).Nodup) : takeT u.id (S.t u) = some (u, S.w) := by
  obtain ⟨h1, h2, h3, h4, _⟩ := sep hN
  exact take_fill rfl h2 h3 h1
theorem parent (hN : (idsT (S.t u)).Nodup) : parentS (S.t u) u.id = (S.i, (S.l.length : Int), true) := by
  obtain ⟨h1, h2, h3, h4, _⟩ := sep hN
  exact parent_fill rfl h2 h3 h1
theorem nodupW (hN : (idsT (S.t u)).Nodup) : (idsT S.w).Nodup := (List.nodup_append.1 ((S.perm u).nodup_iff.1 hN)).1
theorem iW (hN : (idsT S.w).Nodup) : S.i ∉ S.c.ids := by
  have h0 := List.nodup_append.1 (S.perm0.nodup_iff.1 hN)
  exact fun e => h0.2.2 _ e S.i (by simp) rfl
theorem findW (hN : (idsT S.w).Nodup) : findTr S.i S.w = some (.node S.i S.k S.s (S.l ++ S.r)) := by
  rw [Slot.w, find_fill (iW hN), findTr, if_pos rfl]
theorem ins (hN : (idsT S.w).Nodup) : modT S.i (insT S.l.length u (.node S.i S.k S.s (S.l ++ S.r))) S.w = S.t u := by
  rw [Slot.w, mod_fill (id := S.i) (u := .node S.i S.k S.s (S.l ++ S.r)) rfl (iW hN), insT, insK, Tree.put, Tree.txt, Tree.kids, List.take_left, List.drop_left]
  rfl
theorem of_find {id : Int} {t : Tree} (hn : (idsT t).Nodup) (h : findTr id t = some u) (hr : t.id ≠ id) : ∃ S : Slot, t = S.t u ∧ u.id = id := by
  obtain ⟨c, rfl, hu, _⟩ := find_split hn h
  rcases ctx_last c with rfl | ⟨c', i, k, s, l, r, h1, _, _⟩
  · exact absurd hu hr
  · exact ⟨⟨c', i, k, s, l, r⟩, h1 u, hu⟩
theorem of_ins {par : Int} {n : Nat} {t p : Tree} (hn : (idsT t).Nodup) (h : findTr par t = some p) (hp : n ≤ p.kids.length) : ∃ S : Slot, t = S.w ∧ S.i = par ∧ S.l.length = n ∧ p = .node S.i S.k S.s (S.l ++ S.r) := by
  obtain ⟨c, rfl, hu, _⟩ := find_split hn h
  obtain ⟨i, k, s, ks⟩ := p
  refine ⟨⟨c, i, k, s, ks.take n, ks.drop n⟩, ?_, hu, ?_, ?_⟩
  · rw [Slot.w, List.take_append_drop]
  · show (ks.take n).length = n
    rw [List.length_take]
    exact Nat.min_eq_left hp
  · rw [List.take_append_drop]
end Slot
theorem wIns_ok {x : Stp} {t : Tree} (h : (wIns x t).2 = 0) : ∃ (p : Tree) (n : Nat), findTr x.par t = some p ∧ x.pl = (n : Int) ∧ n ≤ p.kids.length ∧ ((∀ i ∈ idsT x.sub, rgI i) ∧ (idsT x.sub).Nodup ∧ ∀ i ∈ idsT x.sub, i ∉ idsT t) ∧ wIns x t = (modT x.par (insT n x.sub p) t, 0) := by
  unfold wIns at h ⊢
  cases hf : findTr x.par t with
  | none => rw [hf] at h; exact absurd (show (4 : Int) = 0 from h) (by decide)
  | some p =>
    rw [hf] at h
    dsimp only at h ⊢
    split at h
    · exact absurd (show (2 : Int) = 0 from h) (by decide)
    split at h
    · exact absurd (show (2 : Int) = 0 from h) (by decide)
    split at h
    · exact absurd (show (2 : Int) = 0 from h) (by decide)
    split at h
    · exact absurd (show (60 : Int) = 0 from h) (by decide)
    rename_i h1 h2 h3 h4
    obtain ⟨n, hn⟩ : ∃ n : Nat, x.pl = (n : Int) := ⟨x.pl.toNat, by omega⟩
    refine ⟨p, n, rfl, hn, by omega, ids_ok.1 ⟨by simpa using h3, by simpa using h4⟩, ?_⟩
    rw [if_neg h1, if_neg h2, if_neg h3, if_neg h4, hn, Int.toNat_natCast]
theorem wIns_slot {x : Stp} {S : Slot} (hN : (idsT (S.t x.sub)).Nodup) (hr : ∀ i ∈ idsT x.sub, rgI i) (hi : x.par = S.i) (hp : x.pl = (S.l.length : Int)) : wIns x S.w = (S.t x.sub, 0) := by
  have hW := Slot.nodupW hN
  have h := List.nodup_append.1 ((S.perm x.sub).nodup_iff.1 hN)
  obtain ⟨e1, e2⟩ := ids_ok.2 ⟨hr, h.2.1, fun i hi hj => h.2.2 i hj i hi rfl⟩
  unfold wIns
  rw [hi, Slot.findW hW]
  dsimp only
  rw [hp, if_neg (by omega), if_neg (by rw [Tree.kids, List.length_append]; omega), if_neg (by rw [e1]; simp), if_neg (by rw [e2]; simp), Int.toNat_natCast, Slot.ins hW]
theorem wDel_slot {x : Stp} {S : Slot} {u : Tree} (hN : (idsT (S.t u)).Nodup) (hx : x.id = u.id) : wDel x (S.t u) = (S.w, 0) := by
  unfold wDel
  rw [hx, Slot.find hN]
  dsimp only
  rw [if_neg (Slot.root hN), Slot.take hN]
theorem wMove_slot {x : Stp} {S S2 : Slot} {u : Tree} (hN : (idsT (S.t u)).Nodup) (hx : x.id = u.id) (hw : S.w = S2.w) (hi : x.par = S2.i) (hp : x.pl = (S2.l.length : Int)) : wMove x (S.t u) = (S2.t u, 0) := by
  have hW := Slot.nodupW hN
  have hW2 : (idsT S2.w).Nodup := hw ▸ hW
  have hi2 : S2.i ∈ idsT S.w := by rw [hw]; exact S2.perm0.mem_iff.2 (by simp)
  have h := List.nodup_append.1 ((S.perm u).nodup_iff.1 hN)
  obtain ⟨v, hv⟩ := Option.isSome_iff_exists.1 (find_mem ((S.perm u).mem_iff.2 (List.mem_append_left _ hi2)))
  have hnu : findTr S2.i u = none := find_none fun e => h.2.2 _ hi2 _ e rfl
  unfold wMove
  rw [hx, hi, Slot.find hN]
  dsimp only
  rw [hv]
  dsimp only
  rw [if_neg (Slot.root hN), hnu, if_neg (by simp), Slot.take hN]
  dsimp only
  rw [hw, Slot.findW hW2]
  dsimp only
  rw [if_neg (by rw [hp, Tree.kids, List.length_append]; omega), hp, Int.toNat_natCast, Slot.ins hW2]
end Go.Proofs.Ytaieiigfheabfaa
