import Derived.Test.YtaieiigfheabfaaU1
/-! step.put: a node among a node's kids. -/
namespace Go.Proofs.Ytaieiigfheabfaa
open Go.Proofs.Ytaieiigfheabfaa.Tw
theorem EW.vsC {A : Ar} {T : TyOps} {P : Program} {r : Option Nat} {K : Nat} {c : Code} {Q : AEx → AFr → Store → Prop} {fr fr' : AFr} {L L' : Store} (h : VS K fr L fr' L') (k : EW A T P r K c Q fr' L') : EW A T P r K c Q fr L := ⟨fun hT => Tw.vs h (k.h hT)⟩
/-- The row of kids is shut, as a row of cells. -/
theorem frzArr {L : Store} {q ix : Nat} {els : List AV} {i k : Int} {s : ByteArray} {o : Option Nat} {ks : List DT} (hr : rowD L ks o) (hqo : o ≠ some q) (hq : L[q]? = some (some (.arr 4 els))) (hx : els[ix]? = some (.agg [.int .i64 i, .int .i64 k, .str s, kidAV ks.length o])) :
    ∃ L' : Store, (∀ K fr, VS K fr L fr L') ∧ L'.length = L.length ∧ L'[q]? = some (some (.arr 4 (els.set ix (.agg [.int .i64 i, .int .i64 k, .str s, .sl 4 (ks.map DT.cell)])))) ∧ ∀ x, x ≠ q → o ≠ some x → L'[x]? = L[x]? := by
  have hli := (List.getElem?_eq_some_iff.1 hx).1
  have hlq := (List.getElem?_eq_some_iff.1 hq).1
  cases o with
  | none =>
    obtain rfl : ks = [] := hr
    refine ⟨L, fun K fr => VS.refl K fr L, rfl, ?_, fun _ _ _ => rfl⟩
    rw [hq]
    congr 3
    exact (List.ext_getElem? fun y => by
      by_cases hy : ix = y
      · subst hy; rw [List.getElem?_set_self hli, hx]; rfl
      · rw [List.getElem?_set_ne hy]).symm
  | some p =>
    have hqp : q ≠ p := fun e => hqo (by rw [e])
    have hp : L[p]? = some (some (.arr 4 (ks.map DT.cell))) := hr
    refine ⟨(L.set q (some (.arr 4 (els.set ix (.agg [.int .i64 i, .int .i64 k, .str s, .sl 4 (ks.map DT.cell)]))))).set p none, fun K fr => VS.freezeIn hqp hp hq (by simp) fun y e e' he he' => ?_, by simp, ?_, fun x h1 h2 => ?_⟩
    · by_cases hyx : ix = y
      · subst hyx
        rw [List.getElem?_set_self hli] at he'
        cases he'
        rw [hx] at he
        cases he
        refine ⟨rfl, fun j c c' hc hc' => ?_⟩
        match j, hc, hc' with
        | 0, hc, hc' => cases hc; cases hc'; exact .sub (Sub.refl _)
        | 1, hc, hc' => cases hc; cases hc'; exact .sub (Sub.refl _)
        | 2, hc, hc' => cases hc; cases hc'; exact .sub (Sub.refl _)
        | 3, hc, hc' => cases hc; cases hc'; exact FSub.whole (by rw [List.length_map])
        | j + 4, hc, hc' => simp [AV.cells] at hc
      · rw [List.getElem?_set_ne hyx] at he'
        rw [he] at he'
        cases he'
        exact FSubE.refl ..
    · rw [List.getElem?_set_ne (Ne.symm hqp), List.getElem?_set_self hlq]
    · rw [List.getElem?_set_ne (fun e => h2 (by rw [e])), List.getElem?_set_ne (Ne.symm h1)]
theorem frzBox {L : Store} {q : Nat} {i k : Int} {s : ByteArray} {o : Option Nat} {ks : List DT} (hr : rowD L ks o) (hqo : o ≠ some q) (hq : L[q]? = some (some (.box 4 (.agg [.int .i64 i, .int .i64 k, .str s, kidAV ks.length o])))) :
    ∃ L' : Store, (∀ K fr, VS K fr L fr L') ∧ L'.length = L.length ∧ L'[q]? = some (some (.box 4 (.agg [.int .i64 i, .int .i64 k, .str s, .sl 4 (ks.map DT.cell)]))) ∧ ∀ x, x ≠ q → o ≠ some x → L'[x]? = L[x]? := by
  have hlq := (List.getElem?_eq_some_iff.1 hq).1
  cases o with
  | none =>
    obtain rfl : ks = [] := hr
    exact ⟨L, fun K fr => VS.refl K fr L, rfl, hq, fun _ _ _ => rfl⟩
  | some p =>
    have hqp : q ≠ p := fun e => hqo (by rw [e])
    have hp : L[p]? = some (some (.arr 4 (ks.map DT.cell))) := hr
    have hlp := (List.getElem?_eq_some_iff.1 hp).1
    refine ⟨(L.set q (some (.box 4 (.agg [.int .i64 i, .int .i64 k, .str s, .sl 4 (ks.map DT.cell)])))).set p none, fun K fr => VS.freezeS (p := p) (wd := 4) (els := ks.map DT.cell) (by simp [aobj, hp, AO.norm]) (by simp) (fun o ho => ?_) (fun x o' hx ho => ?_), by simp, ?_, fun x h1 h2 => ?_⟩
    · rw [List.getElem?_set_self (by simp; exact hlp)] at ho
      cases ho
    · rw [List.getElem?_set_ne (Ne.symm hx)] at ho
      by_cases hxq : x = q
      · subst hxq
        rw [List.getElem?_set_self hlq] at ho
        cases ho
        refine ⟨_, hq, .box 4 _ _ ⟨rfl, fun j c c' hc hc' => ?_⟩⟩
        match j, hc, hc' with
        | 0, hc, hc' => cases hc; cases hc'; exact .sub (Sub.refl _)
        | 1, hc, hc' => cases hc; cases hc'; exact .sub (Sub.refl _)
        | 2, hc, hc' => cases hc; cases hc'; exact .sub (Sub.refl _)
        | 3, hc, hc' => cases hc; cases hc'; exact FSub.whole (by rw [List.length_map])
        | j + 4, hc, hc' => simp [AV.cells] at hc
      · rw [List.getElem?_set_ne (fun e => hxq e.symm)] at ho
        exact ⟨o', ho, .refl _⟩
    · rw [List.getElem?_set_ne (Ne.symm hqp), List.getElem?_set_self hlq]
    · rw [List.getElem?_set_ne (fun e => h2 (by rw [e])), List.getElem?_set_ne (Ne.symm h1)]
/-- What put leaves: at the holder q a node with a new row. -/
def putRow (o : Option Nat) (q : Nat) (row : List AV) (L : Store) (p' : Nat) (L' : Store) : Prop := p' = L.length + 2 ∧ L.length ≤ L'.length ∧ L'[p']? = some (some (.arr 4 row)) ∧ ∀ x, x < L.length → x ≠ q → o ≠ some x → L'[x]? = L[x]?
theorem DT.cell_scal (d : DT) : escal [d.cell] = true := by
  obtain ⟨i, k, s, o, ks⟩ := d
  cases o <;> rfl
theorem cells_scal (ks : List DT) : escal (ks.map DT.cell) = true := by
  unfold escal
  rw [List.all_map, List.all_eq_true]
  intro d _
  obtain ⟨i, k, s, o, ks⟩ := d
  cases o <;> rfl
set_option maxHeartbeats 4000000 in
theorem put73a (A : Ar) {P : Program} (hP : P = Try.prog) (L : Store) (q ix : Nat) (els : List AV) (i k : Int) (s : ByteArray) (o : Option Nat) (ks : List DT) (y : DT) (n : Nat) (hn : n ≤ ks.length) (hl : ks.length ≤ 1000000) (hr : rowD L ks o) (hqo : o ≠ some q) (hq : L[q]? = some (some (.arr 4 els))) (hx : els[ix]? = some (.agg [.int .i64 i, .int .i64 k, .str s, kidAV ks.length o])) :
    TC P 73 [.ref q 4 ix 0, .int .i64 n, y.cell] L (fun x L' => x = .ret (.tup []) ∧ ∃ p', putRow o q ((ks.take n ++ y :: ks.drop n).map DT.cell) L p' L' ∧ L'[q]? = some (some (.arr 4 (els.set ix (.agg [.int .i64 i, .int .i64 k, .str s, .row p' 4 0 (ks.length + 1)]))))) := by
  have hlq := (List.getElem?_eq_some_iff.1 hq).1
  have hysc := y.cell_scal
  obtain ⟨yi, yk, ys, yo, yks⟩ := y
  obtain ⟨kid, hkid⟩ : ∃ kid, kid = kidAV yks.length yo := ⟨_, rfl⟩
  have hkc : (DT.node yi yk ys yo yks).cell = .agg [.int .i64 yi, .int .i64 yk, .str ys, kid] := by rw [hkid]; rfl
  have hksc : kid.scalar = true := by rw [hkid]; exact kid_scal _ _
  rw [List.map_append, List.map_cons]
  rw [hkc] at hysc ⊢
  refine TC.of_ewp A T0 (T0_ok hP) (hP ▸ Try.func73) rfl _ rfl (by simp) ?_
  obtain ⟨R, hR⟩ : ∃ R : AEnd → Store → Prop, R = fun x L' => x = .ret (.tup []) ∧ ∃ p', putRow o q ((ks.take n).map DT.cell ++ .agg [.int .i64 yi, .int .i64 yk, .str ys, kid] :: (ks.drop n).map DT.cell) L p' L' ∧ L'[q]? = some (some (.arr 4 (els.set ix (.agg [.int .i64 i, .int .i64 k, .str s, .row p' 4 0 (ks.length + 1)])))) := ⟨_, rfl⟩
  rw [← hR]
  obtain ⟨La, hLa⟩ : ∃ M : Store, M = L ++ [some (.box 4 (.agg [.int .i64 yi, .int .i64 yk, .str ys, kid]))] := ⟨_, rfl⟩
  obtain ⟨b, hb⟩ : ∃ b, b = L.length := ⟨_, rfl⟩
  have hal : La.length = L.length + 1 := by rw [hLa]; simp
  have hab : La[b]? = some (some (.box 4 (.agg [.int .i64 yi, .int .i64 yk, .str ys, kid]))) := by rw [hLa, hb]; simp
  have hax : ∀ x, x < L.length → La[x]? = L[x]? := fun x hx => by rw [hLa, List.getElem?_append_left hx]
  have hra : rowD La ks o := by
    cases o with
    | none => exact hr
    | some p => exact (hax p (List.getElem?_eq_some_iff.1 hr).1).trans hr
  obtain ⟨Lb, hv, hbl, hbq, hbx⟩ := frzArr hra hqo ((hax q hlq).trans hq) hx
  have hob : o ≠ some b := fun e => by
    subst e
    have := (List.getElem?_eq_some_iff.1 hr).1
    omega
  have hbb := (hbx b (by omega) hob).trans hab
  obtain ⟨els1, hels1⟩ : ∃ e, e = els.set ix (.agg [.int .i64 i, .int .i64 k, .str s, .sl 4 (ks.map DT.cell)]) := ⟨_, rfl⟩
  rw [← hels1] at hbq
  have hli := (List.getElem?_eq_some_iff.1 hx).1
  have hx1 : els1[ix]? = some (.agg [.int .i64 i, .int .i64 k, .str s, .sl 4 (ks.map DT.cell)]) := by rw [hels1, List.getElem?_set_self hli]
  obtain ⟨C, hC⟩ : ∃ C, C = ks.map DT.cell := ⟨_, rfl⟩
  have hCl : C.length = ks.length := by rw [hC, List.length_map]
  rw [← hC] at hx1
  have hCt : C.take n = (ks.take n).map DT.cell := by rw [hC, List.map_take]
  have hCd : C.drop n = (ks.drop n).map DT.cell := by rw [hC, List.map_drop]
  obtain ⟨tk, htk⟩ : ∃ t, t = (ks.take n).map DT.cell := ⟨_, rfl⟩
  obtain ⟨dr, hdr⟩ : ∃ t, t = (ks.drop n).map DT.cell := ⟨_, rfl⟩
  have hdsc : escal dr = true := by rw [hdr]; exact cells_scal _
  have htl : tk.length = n := by rw [htk, List.length_map, List.length_take]; omega
  have hdl : dr.length = ks.length - n := by rw [hdr, List.length_map, List.length_drop]
  rw [← htk] at hCt
  rw [← hdr] at hCd
  rw [← htk, ← hdr] at hR
  cbv
  ((try cbv) <;> (repeat ((with_reducible refine EW.of ?_); cbv)))
  refine byes (bleM _ _ (Nat.le_refl _)) ?_
  simp only [← List.length.eq_def, ← List.append.eq_def]
  rw [show L.append [some (.box 4 (.agg [.int .i64 yi, .int .i64 yk, .str ys, kid]))] = La from hLa.symm, ← hb]
  refine EW.vsC (hv _ _) ?_
  obtain ⟨q1, hq1⟩ : ∃ q, q = n + 1 := ⟨_, rfl⟩
  obtain ⟨q2, hq2⟩ : ∃ q, q = ks.length + 1 := ⟨_, rfl⟩
  obtain ⟨es1, hes1⟩ : ∃ e, e = tk ++ [.agg [.int .i64 yi, .int .i64 yk, .str ys, kid]] := ⟨_, rfl⟩
  obtain ⟨es2, hes2⟩ : ∃ e, e = tk ++ .agg [.int .i64 yi, .int .i64 yk, .str ys, kid] :: dr := ⟨_, rfl⟩
  rw [← hes2] at hR
  have he1l : es1.length = q1 := by rw [hes1, hq1]; simp [htl]
  have he2 : es2 = es1.take q1 ++ dr := by rw [List.take_of_length_le (by omega), hes1, hes2]; simp
  with_reducible refine EW.of ?_
  cbv
  refine TW.drawP (A := A) [(10, [some (.arr 4 es1)]), (17, [none, some (.arr 4 es2)])] (T0_ok hP) (hP ▸ follows_mixed) (by kernel_rfl) rfl (by kernel_rfl) (by cbv) (by first | kernel_rfl | cbv) rfl rfl (by rw [Nat.ble_eq]; omega) ?_
  cbv
  (simp only [← List.get?Internal.eq_def]; rw [show Lb.get?Internal q = _ from hbq]; cbv)
  refine ⟨_, hx1, ?_⟩
  cbv
  refine ⟨n, rfl, n, rfl, rfl, tk, by rw [← hCt]; rfl, Nat.zero_le _, by omega, ?_⟩
  cbv
  (simp only [← List.get?Internal.eq_def]; rw [show Lb.get?Internal b = _ from hbb]; cbv)
  simp only [← List.length.eq_def, ← List.append.eq_def]
  rw [show Lb.append [] = Lb from List.append_nil Lb]
  refine byes (bleM _ _ (by omega)) ?_
  refine ⟨⟨hysc⟩, n, htl.symm, q1, es1, by rw [hq1]; rfl, by rw [List.take_of_length_le (Nat.le_of_eq htl), hes1], Nat.le_of_eq htl.symm, by show q1 * 56 ≤ _; omega, by omega, ?_⟩
  refine ⟨rfl, ?_⟩
  obtain ⟨r1, hr1⟩ : ∃ r, r = Lb.length := ⟨_, rfl⟩
  rw [← hr1]
  cbv
  (simp only [← List.get?Internal.eq_def]; rw [show Lb.get?Internal q = _ from hbq]; cbv)
  refine ⟨_, hx1, ?_⟩
  cbv
  refine ⟨n, rfl, dr, hCd.symm, by show n ≤ C.length; omega, ?_⟩
  cbv
  obtain ⟨L1, hL1⟩ : ∃ M, M = Lb ++ [some (AO.arr 4 es1)] := ⟨_, rfl⟩
  have hg1 : L1[r1]? = some (some (.arr 4 es1)) := by rw [hL1, hr1]; simp
  have hl1 : L1.length = Lb.length + 1 := by rw [hL1]; simp
  obtain ⟨L2, hL2⟩ : ∃ M, M = Lb ++ [none, some (AO.arr 4 es2)] := ⟨_, rfl⟩
  simp only [← List.length.eq_def, ← List.append.eq_def, ← List.get?Internal.eq_def]
  rw [show Lb.append [some (.arr 4 es1)] = L1 from hL1.symm]
  refine byes (bleM _ _ (by omega)) ?_
  rw [show L1.get?Internal r1 = _ from hg1]
  refine chk_iff.2 ⟨by rfl, ?_⟩
  refine ⟨⟨hdsc⟩, q2, es2, by omega, he2, Nat.le_of_eq he1l.symm, by show q2 * 56 ≤ _; omega, by omega, ?_⟩
  refine ⟨by rw [hL1, hr1, List.set_append_right _ _ (Nat.le_refl _), Nat.sub_self]; simp, ?_⟩
  obtain ⟨r2, hr2⟩ : ∃ r, r = L1.length := ⟨_, rfl⟩
  rw [← hr2]
  have hg2 : L2[q]? = some (some (.arr 4 els1)) := by rw [hL2, List.getElem?_append_left (by omega)]; exact hbq
  have hg2r : L2[r2]? = some (some (.arr 4 es2)) := by rw [hL2, hr2, hl1]; simp
  cbv
  simp only [← List.append.eq_def, ← List.get?Internal.eq_def]
  rw [show Lb.append [none, some (.arr 4 es2)] = L2 from hL2.symm]
  rw [show L2.get?Internal q = _ from hg2]
  refine chk_iff.2 ⟨by rfl, ?_⟩
  refine ⟨_, els1.set ix (.agg [.int .i64 i, .int .i64 k, .str s, .row r2 4 0 q2]), hx1, by rfl, by rfl, ?_⟩
  obtain ⟨L3, hL3⟩ : ∃ M, M = L2.set q (some (AO.arr 4 (els1.set ix (.agg [.int .i64 i, .int .i64 k, .str s, .row r2 4 0 q2])))) := ⟨_, rfl⟩
  rw [show L2.set q _ = L3 from hL3.symm]
  have hres : R (.ret (.tup [])) L3 := by
    rw [hR]
    refine ⟨rfl, r2, ⟨by omega, by rw [hL3, List.length_set, hL2]; simp; omega, by rw [hL3, List.getElem?_set_ne (by omega)]; exact hg2r, fun x h1 h2 h3 => ?_⟩, ?_⟩
    · rw [hL3, List.getElem?_set_ne (Ne.symm h2), hL2, List.getElem?_append_left (by omega), hbx x h2 h3, hax x h1]
    · rw [hL3, List.getElem?_set_self (by rw [hL2]; simp; omega), hels1, List.set_set, hq2]
  cbv
  exact ⟨_, L3, VSV.refl _ _ _, hres⟩
set_option maxHeartbeats 4000000 in
theorem put73b (A : Ar) {P : Program} (hP : P = Try.prog) (L : Store) (q : Nat) (i k : Int) (s : ByteArray) (o : Option Nat) (ks : List DT) (y : DT) (n : Nat) (hn : n ≤ ks.length) (hl : ks.length ≤ 1000000) (hr : rowD L ks o) (hqo : o ≠ some q) (hq : L[q]? = some (some (.box 4 (.agg [.int .i64 i, .int .i64 k, .str s, kidAV ks.length o])))) :
    TC P 73 [.ref q 4 0 0, .int .i64 n, y.cell] L (fun x L' => x = .ret (.tup []) ∧ ∃ p', putRow o q ((ks.take n ++ y :: ks.drop n).map DT.cell) L p' L' ∧ L'[q]? = some (some (.box 4 (.agg [.int .i64 i, .int .i64 k, .str s, .row p' 4 0 (ks.length + 1)])))) := by
  have hlq := (List.getElem?_eq_some_iff.1 hq).1
  have hysc := y.cell_scal
  obtain ⟨yi, yk, ys, yo, yks⟩ := y
  obtain ⟨kid, hkid⟩ : ∃ kid, kid = kidAV yks.length yo := ⟨_, rfl⟩
  have hkc : (DT.node yi yk ys yo yks).cell = .agg [.int .i64 yi, .int .i64 yk, .str ys, kid] := by rw [hkid]; rfl
  have hksc : kid.scalar = true := by rw [hkid]; exact kid_scal _ _
  rw [List.map_append, List.map_cons]
  rw [hkc] at hysc ⊢
  refine TC.of_ewp A T0 (T0_ok hP) (hP ▸ Try.func73) rfl _ rfl (by simp) ?_
  obtain ⟨R, hR⟩ : ∃ R : AEnd → Store → Prop, R = fun x L' => x = .ret (.tup []) ∧ ∃ p', putRow o q ((ks.take n).map DT.cell ++ .agg [.int .i64 yi, .int .i64 yk, .str ys, kid] :: (ks.drop n).map DT.cell) L p' L' ∧ L'[q]? = some (some (.box 4 (.agg [.int .i64 i, .int .i64 k, .str s, .row p' 4 0 (ks.length + 1)]))) := ⟨_, rfl⟩
  rw [← hR]
  obtain ⟨La, hLa⟩ : ∃ M : Store, M = L ++ [some (.box 4 (.agg [.int .i64 yi, .int .i64 yk, .str ys, kid]))] := ⟨_, rfl⟩
  obtain ⟨b, hb⟩ : ∃ b, b = L.length := ⟨_, rfl⟩
  have hal : La.length = L.length + 1 := by rw [hLa]; simp
  have hab : La[b]? = some (some (.box 4 (.agg [.int .i64 yi, .int .i64 yk, .str ys, kid]))) := by rw [hLa, hb]; simp
  have hax : ∀ x, x < L.length → La[x]? = L[x]? := fun x hx => by rw [hLa, List.getElem?_append_left hx]
  have hra : rowD La ks o := by
    cases o with
    | none => exact hr
    | some p => exact (hax p (List.getElem?_eq_some_iff.1 hr).1).trans hr
  obtain ⟨Lb, hv, hbl, hbq, hbx⟩ := frzBox hra hqo ((hax q hlq).trans hq)
  have hob : o ≠ some b := fun e => by
    subst e
    have := (List.getElem?_eq_some_iff.1 hr).1
    omega
  have hbb := (hbx b (by omega) hob).trans hab
  obtain ⟨C, hC⟩ : ∃ C, C = ks.map DT.cell := ⟨_, rfl⟩
  have hCl : C.length = ks.length := by rw [hC, List.length_map]
  rw [← hC] at hbq
  have hCt : C.take n = (ks.take n).map DT.cell := by rw [hC, List.map_take]
  have hCd : C.drop n = (ks.drop n).map DT.cell := by rw [hC, List.map_drop]
  obtain ⟨tk, htk⟩ : ∃ t, t = (ks.take n).map DT.cell := ⟨_, rfl⟩
  obtain ⟨dr, hdr⟩ : ∃ t, t = (ks.drop n).map DT.cell := ⟨_, rfl⟩
  have hdsc : escal dr = true := by rw [hdr]; exact cells_scal _
  have htl : tk.length = n := by rw [htk, List.length_map, List.length_take]; omega
  have hdl : dr.length = ks.length - n := by rw [hdr, List.length_map, List.length_drop]
  rw [← htk] at hCt
  rw [← hdr] at hCd
  rw [← htk, ← hdr] at hR
  cbv
  ((try cbv) <;> (repeat ((with_reducible refine EW.of ?_); cbv)))
  refine byes (bleM _ _ (Nat.le_refl _)) ?_
  simp only [← List.length.eq_def, ← List.append.eq_def]
  rw [show L.append [some (.box 4 (.agg [.int .i64 yi, .int .i64 yk, .str ys, kid]))] = La from hLa.symm, ← hb]
  refine EW.vsC (hv _ _) ?_
  obtain ⟨q1, hq1⟩ : ∃ q, q = n + 1 := ⟨_, rfl⟩
  obtain ⟨q2, hq2⟩ : ∃ q, q = ks.length + 1 := ⟨_, rfl⟩
  obtain ⟨es1, hes1⟩ : ∃ e, e = tk ++ [.agg [.int .i64 yi, .int .i64 yk, .str ys, kid]] := ⟨_, rfl⟩
  obtain ⟨es2, hes2⟩ : ∃ e, e = tk ++ .agg [.int .i64 yi, .int .i64 yk, .str ys, kid] :: dr := ⟨_, rfl⟩
  rw [← hes2] at hR
  have he1l : es1.length = q1 := by rw [hes1, hq1]; simp [htl]
  have he2 : es2 = es1.take q1 ++ dr := by rw [List.take_of_length_le (by omega), hes1, hes2]; simp
  with_reducible refine EW.of ?_
  cbv
  refine TW.drawP (A := A) [(10, [some (.arr 4 es1)]), (17, [none, some (.arr 4 es2)])] (T0_ok hP) (hP ▸ follows_mixed) (by kernel_rfl) rfl (by kernel_rfl) (by cbv) (by first | kernel_rfl | cbv) rfl rfl (by rw [Nat.ble_eq]; omega) ?_
  cbv
  (simp only [← List.get?Internal.eq_def]; rw [show Lb.get?Internal q = _ from hbq]; cbv)
  refine ⟨n, rfl, n, rfl, rfl, tk, by rw [← hCt]; rfl, Nat.zero_le _, by omega, ?_⟩
  cbv
  (simp only [← List.get?Internal.eq_def]; rw [show Lb.get?Internal b = _ from hbb]; cbv)
  simp only [← List.length.eq_def, ← List.append.eq_def]
  rw [show Lb.append [] = Lb from List.append_nil Lb]
  refine byes (bleM _ _ (by omega)) ?_
  refine ⟨⟨hysc⟩, n, htl.symm, q1, es1, by rw [hq1]; rfl, by rw [List.take_of_length_le (Nat.le_of_eq htl), hes1], Nat.le_of_eq htl.symm, by show q1 * 56 ≤ _; omega, by omega, ?_⟩
  refine ⟨rfl, ?_⟩
  obtain ⟨r1, hr1⟩ : ∃ r, r = Lb.length := ⟨_, rfl⟩
  rw [← hr1]
  cbv
  (simp only [← List.get?Internal.eq_def]; rw [show Lb.get?Internal q = _ from hbq]; cbv)
  refine ⟨n, rfl, dr, hCd.symm, by show n ≤ C.length; omega, ?_⟩
  cbv
  obtain ⟨L1, hL1⟩ : ∃ M, M = Lb ++ [some (AO.arr 4 es1)] := ⟨_, rfl⟩
  have hg1 : L1[r1]? = some (some (.arr 4 es1)) := by rw [hL1, hr1]; simp
  have hl1 : L1.length = Lb.length + 1 := by rw [hL1]; simp
  obtain ⟨L2, hL2⟩ : ∃ M, M = Lb ++ [none, some (AO.arr 4 es2)] := ⟨_, rfl⟩
  simp only [← List.length.eq_def, ← List.append.eq_def, ← List.get?Internal.eq_def]
  rw [show Lb.append [some (.arr 4 es1)] = L1 from hL1.symm]
  refine byes (bleM _ _ (by omega)) ?_
  rw [show L1.get?Internal r1 = _ from hg1]
  refine chk_iff.2 ⟨by rfl, ?_⟩
  refine ⟨⟨hdsc⟩, q2, es2, by omega, he2, Nat.le_of_eq he1l.symm, by show q2 * 56 ≤ _; omega, by omega, ?_⟩
  refine ⟨by rw [hL1, hr1, List.set_append_right _ _ (Nat.le_refl _), Nat.sub_self]; simp, ?_⟩
  obtain ⟨r2, hr2⟩ : ∃ r, r = L1.length := ⟨_, rfl⟩
  rw [← hr2]
  have hg2 : L2[q]? = some (some (.box 4 (.agg [.int .i64 i, .int .i64 k, .str s, .sl 4 C]))) := by rw [hL2, List.getElem?_append_left (by omega)]; exact hbq
  have hg2r : L2[r2]? = some (some (.arr 4 es2)) := by rw [hL2, hr2, hl1]; simp
  cbv
  simp only [← List.append.eq_def, ← List.get?Internal.eq_def]
  rw [show Lb.append [none, some (.arr 4 es2)] = L2 from hL2.symm]
  rw [show L2.get?Internal q = _ from hg2]
  refine chk_iff.2 ⟨by rfl, ?_⟩
  obtain ⟨L3, hL3⟩ : ∃ M, M = L2.set q (some (AO.box 4 (.agg [.int .i64 i, .int .i64 k, .str s, .row r2 4 0 q2]))) := ⟨_, rfl⟩
  generalize hL4 : List.set L2 q _ = L4
  obtain rfl : L3 = L4 := by rw [← hL4, hL3]; rfl
  have hres : R (.ret (.tup [])) L3 := by
    rw [hR]
    refine ⟨rfl, r2, ⟨by omega, by rw [hL3, List.length_set, hL2]; simp; omega, by rw [hL3, List.getElem?_set_ne (by omega)]; exact hg2r, fun x h1 h2 h3 => ?_⟩, ?_⟩
    · rw [hL3, List.getElem?_set_ne (Ne.symm h2), hL2, List.getElem?_append_left (by omega), hbx x h2 h3, hax x h1]
    · rw [hL3, List.getElem?_set_self (by rw [hL2]; simp; omega), hq2]
  cbv
  exact ⟨_, L3, VSV.refl _ _ _, hres⟩
end Go.Proofs.Ytaieiigfheabfaa

/-! step.take: plain. -/
namespace Go.Proofs.Ytaieiigfheabfaa
open Go.Proofs.Ytaieiigfheabfaa.Tw
mutual
/-- The first node of an id, not the root, taken out: it, and what is left. -/
def takeT (id : Int) : Tree → Option (Tree × Tree)
  | .node i k s ks => (takeTs id ks).map fun r => (r.1, .node i k s r.2)
def takeTs (id : Int) : List Tree → Option (Tree × List Tree)
  | [] => none
  | t :: ts => if t.id = id then some (t, ts) else match takeT id t with
    | some r => some (r.1, r.2 :: ts)
    | none => (takeTs id ts).map fun r => (r.1, t :: r.2)
end
def missX (id : Int) (ts : List Tree) (j : Nat) : Prop := ∀ (i : Nat) (t : Tree), i < j → ts[i]? = some t → t.id ≠ id ∧ takeT id t = none
theorem missX.succ {id : Int} {ts : List Tree} {j : Nat} {t : Tree} (h : missX id ts j) (ht : ts[j]? = some t) (h1 : t.id ≠ id) (h2 : takeT id t = none) : missX id ts (j + 1) := fun i u hi hu => by
  by_cases e : i = j
  · subst e; rw [ht] at hu; cases hu; exact ⟨h1, h2⟩
  · exact h i u (by omega) hu
theorem takeTs_hit {id : Int} : ∀ {ts : List Tree} {j : Nat} {t : Tree}, missX id ts j → ts[j]? = some t → t.id = id → takeTs id ts = some (t, ts.take j ++ ts.drop (j + 1))
  | [], j, t, _, h, _ => by simp at h
  | u :: ts, 0, t, _, h, hi => by
    obtain rfl : u = t := by simpa using h
    rw [takeTs, if_pos hi]; rfl
  | u :: ts, j + 1, t, hm, h, hi => by
    obtain ⟨h1, h2⟩ := hm 0 u (by omega) rfl
    rw [takeTs, if_neg h1, h2, takeTs_hit (ts := ts) (j := j) (fun i x hi hx => hm (i + 1) x (by omega) (by simpa using hx)) (by simpa using h) hi]
    rfl
theorem takeTs_deep {id : Int} : ∀ {ts : List Tree} {j : Nat} {t x t' : Tree}, missX id ts j → ts[j]? = some t → t.id ≠ id → takeT id t = some (x, t') → takeTs id ts = some (x, ts.set j t')
  | [], j, t, _, _, _, h, _, _ => by simp at h
  | u :: ts, 0, t, x, t', _, h, hi, ht => by
    obtain rfl : u = t := by simpa using h
    rw [takeTs, if_neg hi, ht]; rfl
  | u :: ts, j + 1, t, x, t', hm, h, hi, ht => by
    obtain ⟨h1, h2⟩ := hm 0 u (by omega) rfl
    rw [takeTs, if_neg h1, h2, takeTs_deep (ts := ts) (j := j) (fun i x hi hx => hm (i + 1) x (by omega) (by simpa using hx)) (by simpa using h) hi ht]
    rfl
theorem takeTs_none {id : Int} : ∀ {ts : List Tree} {j : Nat}, missX id ts j → ts.length ≤ j → takeTs id ts = none
  | [], _, _, _ => rfl
  | u :: ts, 0, _, h => by simp at h
  | u :: ts, j + 1, hm, h => by
    obtain ⟨h1, h2⟩ := hm 0 u (by omega) rfl
    rw [takeTs, if_neg h1, h2, takeTs_none (ts := ts) (j := j) (fun i x hi hx => hm (i + 1) x (by omega) (by simpa using hx)) (by simpa using h)]
    rfl
theorem treesD_get {ks : List DT} {j : Nat} {d : DT} (h : ks[j]? = some d) : (treesD ks)[j]? = some d.tree := by rw [treesD_map, List.getElem?_map, h]; rfl
theorem treesD_set (ks : List DT) (j : Nat) (d : DT) : treesD (ks.set j d) = (treesD ks).set j d.tree := by rw [treesD_map, treesD_map, List.map_set]
theorem treesD_take (ks : List DT) (j : Nat) : treesD (ks.take j) = (treesD ks).take j := by rw [treesD_map, treesD_map, List.map_take]
theorem treesD_drop (ks : List DT) (j : Nat) : treesD (ks.drop j) = (treesD ks).drop j := by rw [treesD_map, treesD_map, List.map_drop]
/-- What take leaves; H: the holder's object with a cell. -/
def tkR (id : Int) (d : DT) (q : Nat) (H : AV → AO) (L : Store) : AEnd → Store → Prop := fun x L' => L.length ≤ L'.length ∧ ((takeT id d.tree = none ∧ x = .ret (.tup [z4, .bool false]) ∧ ∀ y, y < L.length → L'[y]? = L[y]?) ∨ ∃ e d' : DT, takeT id d.tree = some (e.tree, d'.tree) ∧ x = .ret (.tup [e.cell, .bool true]) ∧ L'[q]? = some (some (H d'.cell)) ∧ d'.ok L' ∧ e.ok L' ∧ (d'.foot ++ e.foot).Nodup ∧ (∀ y ∈ d'.foot ++ e.foot, y ∈ d.foot ∨ L.length ≤ y) ∧ ∀ y, y < L.length → y ∉ q :: d.foot → L'[y]? = L[y]?)
theorem foot_split {ks : List DT} {j : Nat} {d : DT} (h : ks[j]? = some d) : footD ks = footD (ks.take j) ++ (d.foot ++ footD (ks.drop (j + 1))) ∧ footD (ks.take j ++ ks.drop (j + 1)) = footD (ks.take j) ++ footD (ks.drop (j + 1)) := by
  have e : ks = ks.take j ++ (d :: ks.drop (j + 1)) := by
    conv => lhs; rw [← List.take_append_drop j ks, List.drop_eq_getElem?_toList_append, h]
    rfl
  refine ⟨?_, footD_app ..⟩
  conv => lhs; rw [e, footD_app]
  rfl
theorem foot_set {ks : List DT} {j : Nat} {d d' : DT} (h : ks[j]? = some d) : footD (ks.set j d') = footD (ks.take j) ++ (d'.foot ++ footD (ks.drop (j + 1))) := by
  have hl := (List.getElem?_eq_some_iff.1 h).1
  rw [List.set_eq_take_append_cons_drop, if_pos hl, footD_app]
  rfl
theorem takeD_tree {id : Int} {i k : Int} {s : ByteArray} {o : Option Nat} {ks : List DT} : takeT id (DT.node i k s o ks).tree = (takeTs id (treesD ks)).map fun r => (r.1, .node i k s r.2) := by rw [DT.tree, takeT]
end Go.Proofs.Ytaieiigfheabfaa

/-! A text put to the first node of an id: plain. -/
namespace Go.Proofs.Ytaieiigfheabfaa
open Go.Proofs.Ytaieiigfheabfaa.Tw
mutual
def textT (id : Int) (s : ByteArray) : Tree → Tree × Bool
  | .node i k x ks => if i = id then (.node i k s ks, true) else (.node i k x (textTs id s ks).1, (textTs id s ks).2)
def textTs (id : Int) (s : ByteArray) : List Tree → List Tree × Bool
  | [] => ([], false)
  | t :: ts => if (textT id s t).2 = true then ((textT id s t).1 :: ts, true) else (t :: (textTs id s ts).1, (textTs id s ts).2)
end
mutual
def textD (id : Int) (s : ByteArray) : DT → DT × Bool
  | .node i k x o ks => if i = id then (.node i k s o ks, true) else (.node i k x o (textDs id s ks).1, (textDs id s ks).2)
def textDs (id : Int) (s : ByteArray) : List DT → List DT × Bool
  | [] => ([], false)
  | d :: ds => if (textD id s d).2 = true then ((textD id s d).1 :: ds, true) else (d :: (textDs id s ds).1, (textDs id s ds).2)
end
mutual
theorem textD_tree (id : Int) (s : ByteArray) : ∀ d : DT, textT id s d.tree = ((textD id s d).1.tree, (textD id s d).2)
  | .node i k x o ks => by
    rw [DT.tree, textT, textD]
    by_cases h : i = id
    · rw [if_pos h, if_pos h, DT.tree]
    · rw [if_neg h, if_neg h, DT.tree, textDs_tree id s ks]
theorem textDs_tree (id : Int) (s : ByteArray) : ∀ ks : List DT, textTs id s (treesD ks) = (treesD (textDs id s ks).1, (textDs id s ks).2)
  | [] => rfl
  | d :: ds => by
    rw [treesD, textTs, textDs, textD_tree id s d, textDs_tree id s ds]
    by_cases h : (textD id s d).2 = true
    · rw [if_pos h, if_pos h, treesD]
    · rw [if_neg h, if_neg h, treesD]
end
mutual
theorem textD_foot (id : Int) (s : ByteArray) : ∀ d : DT, (textD id s d).1.foot = d.foot
  | .node i k x o ks => by
    rw [textD]
    by_cases h : i = id
    · rw [if_pos h]; rfl
    · rw [if_neg h, DT.foot, DT.foot, textDs_foot id s ks]
theorem textDs_foot (id : Int) (s : ByteArray) : ∀ ks : List DT, footD (textDs id s ks).1 = footD ks
  | [] => rfl
  | d :: ds => by
    rw [textDs]
    by_cases h : (textD id s d).2 = true
    · rw [if_pos h, footD, footD, textD_foot id s d]
    · rw [if_neg h, footD, footD, textDs_foot id s ds]
end
mutual
theorem textD_no (id : Int) (s : ByteArray) : ∀ d : DT, (textD id s d).2 = false → (textD id s d).1 = d
  | .node i k x o ks => by
    rw [textD]
    by_cases h : i = id
    · rw [if_pos h]; exact fun h => by cases h
    · rw [if_neg h]; exact fun h => by rw [textDs_no id s ks h]
theorem textDs_no (id : Int) (s : ByteArray) : ∀ ks : List DT, (textDs id s ks).2 = false → (textDs id s ks).1 = ks
  | [], _ => rfl
  | d :: ds, h => by
    rw [textDs] at h ⊢
    by_cases hd : (textD id s d).2 = true
    · rw [if_pos hd] at h; cases h
    · rw [if_neg hd] at h ⊢
      rw [textDs_no id s ds h]
end
theorem textDs_len (id : Int) (s : ByteArray) : ∀ ks : List DT, (textDs id s ks).1.length = ks.length
  | [] => rfl
  | d :: ds => by
    rw [textDs]
    by_cases hd : (textD id s d).2 = true
    · rw [if_pos hd]; rfl
    · rw [if_neg hd, List.length_cons, List.length_cons, textDs_len id s ds]
/-- None of the first j kids is hit. -/
def missD (id : Int) (s : ByteArray) (ks : List DT) (j : Nat) : Prop := ∀ (i : Nat) (d : DT), i < j → ks[i]? = some d → (textD id s d).2 = false
theorem missD.succ {id : Int} {s : ByteArray} {ks : List DT} {j : Nat} {d : DT} (h : missD id s ks j) (hd : ks[j]? = some d) (hn : (textD id s d).2 = false) : missD id s ks (j + 1) := fun i e hi he => by
  by_cases hij : i = j
  · subst hij; rw [hd] at he; cases he; exact hn
  · exact h i e (by omega) he
theorem textDs_hit {id : Int} {s : ByteArray} : ∀ {ks : List DT} {j : Nat} {d : DT}, missD id s ks j → ks[j]? = some d → (textD id s d).2 = true → textDs id s ks = (ks.set j (textD id s d).1, true)
  | [], j, d, _, h, _ => by simp at h
  | e :: ks, 0, d, _, h, hd => by
    obtain rfl : e = d := by simpa using h
    rw [textDs, if_pos hd]; rfl
  | e :: ks, j + 1, d, hm, h, hd => by
    have he := hm 0 e (by omega) rfl
    rw [textDs, if_neg (by rw [he]; simp), textDs_hit (ks := ks) (j := j) (fun i x hi hx => hm (i + 1) x (by omega) (by simpa using hx)) (by simpa using h) hd]
    rfl
theorem textDs_miss {id : Int} {s : ByteArray} : ∀ {ks : List DT} {j : Nat}, missD id s ks j → ks.length ≤ j → textDs id s ks = (ks, false)
  | [], j, _, _ => rfl
  | e :: ks, 0, _, h => by simp at h
  | e :: ks, j + 1, hm, h => by
    have he := hm 0 e (by omega) rfl
    rw [textDs, if_neg (by rw [he]; simp), textDs_miss (ks := ks) (j := j) (fun i x hi hx => hm (i + 1) x (by omega) (by simpa using hx)) (by simpa using h)]
theorem foot_sep {ks : List DT} {j : Nat} {d : DT} (h : ks[j]? = some d) (hn : (footD ks).Nodup) : footD ks = footD (ks.take j) ++ (d.foot ++ footD (ks.drop (j + 1))) ∧ d.foot.Nodup := by
  have e : ks = ks.take j ++ (d :: ks.drop (j + 1)) := by
    conv => lhs; rw [← List.take_append_drop j ks, List.drop_eq_getElem?_toList_append, h]
    rfl
  have e2 : footD ks = footD (ks.take j) ++ (d.foot ++ footD (ks.drop (j + 1))) := by
    conv => lhs; rw [e, footD_app]
    rfl
  refine ⟨e2, ?_⟩
  rw [e2] at hn
  exact (List.nodup_append.1 (List.nodup_append.1 hn).2.1).1
/-- What a change within one kid's rows leaves of the other kids. -/
theorem oksD.set {L L' : Store} {ks : List DT} {j : Nat} {d d' : DT} (h : ks[j]? = some d) (hn : (footD ks).Nodup) (ho : oksD L ks) (hd : d'.ok L') (hs : ∀ x ∈ footD ks, x ∉ d.foot → L'[x]? = L[x]?) : oksD L' (ks.set j d') := by
  obtain ⟨e2, _⟩ := foot_sep h hn
  have e : ks = ks.take j ++ (d :: ks.drop (j + 1)) := by
    conv => lhs; rw [← List.take_append_drop j ks, List.drop_eq_getElem?_toList_append, h]
    rfl
  have hl := (List.getElem?_eq_some_iff.1 h).1
  have es : ks.set j d' = ks.take j ++ (d' :: ks.drop (j + 1)) := by
    rw [List.set_eq_take_append_cons_drop, if_pos hl]
  rw [e2] at hn hs
  have h1 := List.nodup_append.1 hn
  have h2 := List.nodup_append.1 h1.2.1
  rw [e, oksD_app] at ho
  rw [es, oksD_app]
  refine ⟨oksD.same (fun x hx => hs x (by simp [hx]) fun hm => h1.2.2 x hx x (List.mem_append_left _ hm) rfl) ho.1, hd, oksD.same (fun x hx => hs x (by simp [hx]) fun hm => h2.2.2 x hm x hx rfl) ho.2.2⟩
end Go.Proofs.Ytaieiigfheabfaa

/-! What take leaves, of rows. -/
namespace Go.Proofs.Ytaieiigfheabfaa
open Go.Proofs.Ytaieiigfheabfaa.Tw
theorem DT.tree_id (i k : Int) (s : ByteArray) (o : Option Nat) (ks : List DT) : (DT.node i k s o ks).tree.id = i := by rw [DT.tree]; rfl
theorem tk_hit {id : Int} {i k : Int} {s : ByteArray} {p q r j : Nat} {ks : List DT} {dj : DT} {H : AV → AO} {L L' : Store} (hd : (DT.node i k s (some p) ks).ok L) (hn : (q :: (DT.node i k s (some p) ks).foot).Nodup) (hm : missX id (treesD ks) j) (hdj : ks[j]? = some dj) (hid : dj.tree.id = id)
    (hl : L.length ≤ L'.length) (hr : L.length ≤ r) (hq' : L'[q]? = some (some (H (.agg [.int .i64 i, .int .i64 k, .str s, .row r 4 0 (ks.length - 1)])))) (hr' : L'[r]? = some (some (.arr 4 ((ks.take j ++ ks.drop (j + 1)).map DT.cell)))) (hs : ∀ y, y < L.length → y ≠ q → y ≠ p → L'[y]? = L[y]?) :
    tkR id (.node i k s (some p) ks) q H L (.ret (.tup [dj.cell, .bool true])) L' := by
  have hjl := (List.getElem?_eq_some_iff.1 hdj).1
  obtain ⟨e1, e2⟩ := foot_split hdj
  have hlt := DT.ok.lt hd
  have hn1 := List.nodup_cons.1 hn
  have hn2 : (p :: footD ks).Nodup := hn1.2
  have hn3 := List.nodup_cons.1 hn2
  have hsame : ∀ y ∈ footD ks, L'[y]? = L[y]? := fun y hy => hs y (hlt y (List.mem_cons_of_mem _ hy)) (fun e => hn1.1 (e ▸ List.mem_cons_of_mem _ hy)) fun e => hn3.1 (e ▸ hy)
  have hoks : oksD L' ks := oksD.same hsame hd.2
  have e : ks = ks.take j ++ (dj :: ks.drop (j + 1)) := by
    conv => lhs; rw [← List.take_append_drop j ks, List.drop_eq_getElem?_toList_append, hdj]
    rfl
  have hok2 := hoks
  rw [e, oksD_app] at hok2
  have hlen : (ks.take j ++ ks.drop (j + 1)).length = ks.length - 1 := by simp; omega
  have hnF := hn3.2
  rw [e1] at hnF
  have a1 := List.nodup_append.1 hnF
  have a2 := List.nodup_append.1 a1.2.1
  have hrf : ∀ y ∈ footD ks, y < L.length := fun y hy => hlt y (List.mem_cons_of_mem _ hy)
  have m1 : ∀ y ∈ footD (ks.take j), y ∈ footD ks := fun y hy => by rw [e1]; exact List.mem_append_left _ hy
  have m2 : ∀ y ∈ dj.foot, y ∈ footD ks := fun y hy => by rw [e1]; exact List.mem_append_right _ (List.mem_append_left _ hy)
  have m3 : ∀ y ∈ footD (ks.drop (j + 1)), y ∈ footD ks := fun y hy => by rw [e1]; exact List.mem_append_right _ (List.mem_append_right _ hy)
  refine ⟨hl, .inr ⟨dj, .node i k s (some r) (ks.take j ++ ks.drop (j + 1)), ?_, rfl, by rw [DT.cell, hlen]; exact hq', ⟨hr', oksD_app.2 ⟨hok2.1, hok2.2.2⟩⟩, hok2.2.1, ?_, fun y hy => ?_, fun y h1 h2 => hs y h1 (fun e => h2 (e ▸ List.mem_cons_self ..)) fun e => h2 (List.mem_cons_of_mem _ (e ▸ List.mem_cons_self ..))⟩⟩
  · rw [takeD_tree, takeTs_hit hm (treesD_get hdj) hid, DT.tree, treesD_app, treesD_take, treesD_drop]
    rfl
  · show ((r :: footD (ks.take j ++ ks.drop (j + 1))) ++ dj.foot).Nodup
    rw [e2, List.cons_append]
    refine List.nodup_cons.2 ⟨fun h => ?_, ?_⟩
    · have : r ∈ footD ks := by
        rcases List.mem_append.1 h with h | h
        · rcases List.mem_append.1 h with h | h
          · exact m1 r h
          · exact m3 r h
        · exact m2 r h
      have := hrf r this
      omega
    · rw [List.append_assoc]
      refine List.nodup_append.2 ⟨a1.1, List.nodup_append.2 ⟨a2.2.1, a2.1, fun a ha b hb e => a2.2.2 b hb a ha e.symm⟩, fun a ha b hb e => ?_⟩
      rcases List.mem_append.1 hb with hb | hb
      · exact a1.2.2 a ha b (List.mem_append_right _ hb) e
      · exact a1.2.2 a ha b (List.mem_append_left _ hb) e
  · rcases List.mem_append.1 hy with hy | hy
    · rcases List.mem_cons.1 (show y ∈ r :: footD (ks.take j ++ ks.drop (j + 1)) from hy) with rfl | hy
      · exact .inr hr
      · rw [e2] at hy
        rcases List.mem_append.1 hy with hy | hy
        · exact .inl (List.mem_cons_of_mem _ (m1 y hy))
        · exact .inl (List.mem_cons_of_mem _ (m3 y hy))
    · exact .inl (List.mem_cons_of_mem _ (m2 y hy))
/-- A kid out of which the node was taken. -/
theorem tk_deep {id : Int} {i k : Int} {s : ByteArray} {p q j : Nat} {ks : List DT} {dj e d2 : DT} {H : AV → AO} {L L1 L' : Store} (hd : (DT.node i k s (some p) ks).ok L) (hn : (q :: (DT.node i k s (some p) ks).foot).Nodup) (hqL : q < L.length) (hm : missX id (treesD ks) j) (hdj : ks[j]? = some dj) (hid : dj.tree.id ≠ id) (ht : takeT id dj.tree = some (e.tree, d2.tree))
    (hl : L.length ≤ L'.length) (hl1 : L.length ≤ L1.length) (hq' : L'[q]? = some (some (H (.agg [.int .i64 i, .int .i64 k, .str s, .row p 4 0 ks.length])))) (hp' : L'[p]? = some (some (.arr 4 ((ks.map DT.cell).set j d2.cell)))) (ho2 : d2.ok L') (hoe : e.ok L') (hnd : (d2.foot ++ e.foot).Nodup) (hsub : ∀ y ∈ d2.foot ++ e.foot, y ∈ dj.foot ∨ L1.length ≤ y) (hs : ∀ y, y < L.length → y ∉ p :: dj.foot → L'[y]? = L[y]?) :
    tkR id (.node i k s (some p) ks) q H L (.ret (.tup [e.cell, .bool true])) L' := by
  obtain ⟨e1, _⟩ := foot_split hdj
  have e2 := foot_set (d' := d2) hdj
  have hlt := DT.ok.lt hd
  have hn1 := List.nodup_cons.1 hn
  have hn2 : (p :: footD ks).Nodup := hn1.2
  have hn3 := List.nodup_cons.1 hn2
  have hrf : ∀ y ∈ footD ks, y < L.length := fun y hy => hlt y (List.mem_cons_of_mem _ hy)
  have hpL : p < L.length := hlt p (List.mem_cons_self ..)
  have hoks : oksD L' (ks.set j d2) := oksD.set hdj hn3.2 hd.2 ho2 fun y hy hny => hs y (hrf y hy) fun h => by
    rcases List.mem_cons.1 h with rfl | h
    · exact hn3.1 hy
    · exact hny h
  have hnF := hn3.2
  rw [e1] at hnF
  have a1 := List.nodup_append.1 hnF
  have a2 := List.nodup_append.1 a1.2.1
  have m1 : ∀ y ∈ footD (ks.take j), y ∈ footD ks := fun y hy => by rw [e1]; exact List.mem_append_left _ hy
  have m2 : ∀ y ∈ dj.foot, y ∈ footD ks := fun y hy => by rw [e1]; exact List.mem_append_right _ (List.mem_append_left _ hy)
  have m3 : ∀ y ∈ footD (ks.drop (j + 1)), y ∈ footD ks := fun y hy => by rw [e1]; exact List.mem_append_right _ (List.mem_append_right _ hy)
  have b := List.nodup_append.1 hnd
  have far : ∀ y ∈ d2.foot ++ e.foot, y ∈ dj.foot ∨ L.length ≤ y := fun y hy => (hsub y hy).imp (fun h => h) fun h => by omega
  refine ⟨hl, .inr ⟨e, .node i k s (some p) (ks.set j d2), ?_, rfl, by rw [DT.cell, List.length_set]; exact hq', ⟨by show L'[p]? = _; rw [hp', List.map_set], hoks⟩, hoe, ?_, fun y hy => ?_, fun y h1 h2 => hs y h1 fun h => h2 (List.mem_cons_of_mem _ ?_)⟩⟩
  · rw [takeD_tree, takeTs_deep hm (treesD_get hdj) hid ht, DT.tree, treesD_set]
    rfl
  · show ((p :: footD (ks.set j d2)) ++ e.foot).Nodup
    rw [e2, List.cons_append]
    refine List.nodup_cons.2 ⟨fun h => ?_, ?_⟩
    · have h2 : p ∈ footD ks ∨ L.length ≤ p := by
        rcases List.mem_append.1 h with h | h
        · rcases List.mem_append.1 h with h | h
          · exact .inl (m1 p h)
          · rcases List.mem_append.1 h with h | h
            · exact (far p (List.mem_append_left _ h)).imp (m2 p) fun h => h
            · exact .inl (m3 p h)
        · exact (far p (List.mem_append_right _ h)).imp (m2 p) fun h => h
      rcases h2 with h2 | h2
      · exact hn3.1 h2
      · omega
    · rw [List.append_assoc, List.append_assoc]
      refine List.nodup_append.2 ⟨a1.1, List.nodup_append.2 ⟨b.1, List.nodup_append.2 ⟨a2.2.1, b.2.1, fun a ha c hc e => ?_⟩, fun a ha c hc e => ?_⟩, fun a ha c hc e => ?_⟩
      · subst e
        rcases far a (List.mem_append_right _ hc) with h | h
        · exact a2.2.2 a h a ha rfl
        · have := hrf a (m3 a ha); omega
      · subst e
        rcases List.mem_append.1 hc with hc | hc
        · rcases far a (List.mem_append_left _ ha) with h | h
          · exact a2.2.2 a h a hc rfl
          · have := hrf a (m3 a hc); omega
        · exact b.2.2 a ha a hc rfl
      · subst e
        have hlt := hrf a (m1 a ha)
        rcases List.mem_append.1 hc with hc | hc
        · rcases far a (List.mem_append_left _ hc) with h | h
          · exact a1.2.2 a ha a (List.mem_append_left _ h) rfl
          · omega
        · rcases List.mem_append.1 hc with hc | hc
          · exact a1.2.2 a ha a (List.mem_append_right _ hc) rfl
          · rcases far a (List.mem_append_right _ hc) with h | h
            · exact a1.2.2 a ha a (List.mem_append_left _ h) rfl
            · omega
  · rcases List.mem_append.1 hy with hy | hy
    · rcases List.mem_cons.1 (show y ∈ p :: footD (ks.set j d2) from hy) with rfl | hy
      · exact .inl (List.mem_cons_self ..)
      · rw [e2] at hy
        rcases List.mem_append.1 hy with hy | hy
        · exact .inl (List.mem_cons_of_mem _ (m1 y hy))
        · rcases List.mem_append.1 hy with hy | hy
          · exact (far y (List.mem_append_left _ hy)).imp (fun h => List.mem_cons_of_mem _ (m2 y h)) fun h => h
          · exact .inl (List.mem_cons_of_mem _ (m3 y hy))
    · exact (far y (List.mem_append_right _ hy)).imp (fun h => List.mem_cons_of_mem _ (m2 y h)) fun h => h
  · rcases List.mem_cons.1 h with rfl | h
    · exact List.mem_cons_self ..
    · exact List.mem_cons_of_mem _ (m2 y h)
end Go.Proofs.Ytaieiigfheabfaa

/-! step.take, walked. -/
namespace Go.Proofs.Ytaieiigfheabfaa
open Go.Proofs.Ytaieiigfheabfaa.Tw
set_option maxHeartbeats 4000000 in
theorem take52 (A : Ar) {P : Program} (hP : P = Try.prog) (id : Int) : ∀ (m : Nat) (d : DT) (L : Store) (q ix : Nat) (els : List AV), within m d.tree → d.ok L → (q :: d.foot).Nodup → L[q]? = some (some (.arr 4 els)) → els[ix]? = some d.cell → TC P 52 [.ref q 4 ix 0, .int .i64 id] L (tkR id d q (fun c => .arr 4 (els.set ix c)) L) := by
  intro m
  induction m with
  | zero => exact fun _ _ _ _ _ h => h.elim
  | succ m ih =>
  intro d L q ix els hw hd hn hq hx
  obtain ⟨i, k, s, o, ks⟩ := d
  have hwl := hw.1
  rw [treesD_len] at hwl
  obtain ⟨nk, hnk⟩ : ∃ n, n = ks.length := ⟨_, rfl⟩
  have hlq := (List.getElem?_eq_some_iff.1 hq).1
  refine TC.of_ewp A T0 (T0_ok hP) (hP ▸ Try.func52) rfl _ rfl (by simp) ?_
  obtain ⟨R, hR⟩ : ∃ R, R = tkR id (.node i k s o ks) q (fun c => .arr 4 (els.set ix c)) L := ⟨_, rfl⟩
  rw [← hR]
  obtain ⟨La, hLa⟩ : ∃ M : Store, M = L ++ [some (.box 4 (.agg [.int .i64 0, .int .i64 0, .str ⟨⟨[]⟩⟩, .nils]))] := ⟨_, rfl⟩
  obtain ⟨b, hb⟩ : ∃ b, b = L.length := ⟨_, rfl⟩
  have hal : La.length = L.length + 1 := by rw [hLa]; simp
  have hab : La[b]? = some (some (.box 4 (.agg [.int .i64 0, .int .i64 0, .str ⟨⟨[]⟩⟩, .nils]))) := by rw [hLa, hb]; simp
  have hax : ∀ x, x < L.length → La[x]? = L[x]? := fun x hx => by rw [hLa, List.getElem?_append_left hx]
  have hres0 : ∀ L' : Store, L.length + 1 ≤ L'.length → (∀ y, y < L.length → L'[y]? = L[y]?) → missX id (treesD ks) nk → R (.ret (.tup [.agg [.int .i64 0, .int .i64 0, .str ⟨⟨[]⟩⟩, .nils], .bool false])) L' := fun L' h1 h2 h3 => by
    rw [hR]
    exact ⟨by omega, .inl ⟨by rw [takeD_tree, takeTs_none h3 (by rw [treesD_len]; omega)]; rfl, rfl, h2⟩⟩
  have hjend : nk < 9223372036854775807 := by omega
  have haq := (hax q hlq).trans hq
  cases o with
  | none =>
    have hks : ks = [] := hd.1
    have hnk0 : nk = 0 := by rw [hnk, hks]; rfl
    replace hx : els[ix]? = some (.agg [.int .i64 i, .int .i64 k, .str s, .sl 4 []]) := hx
    have hNN : A.len [] = (nk : Int) := by rw [A.ok_len, hnk0]; rfl
    cbv
    ((try cbv) <;> (repeat ((with_reducible refine EW.of ?_); cbv)))
    refine byes (bleM _ _ (Nat.le_refl _)) ?_
    simp only [← List.length.eq_def, ← List.append.eq_def]
    rw [show L.append [some (.box 4 (.agg [.int .i64 0, .int .i64 0, .str ⟨⟨[]⟩⟩, .nils]))] = La from hLa.symm, ← hb]
    ((try cbv) <;> (repeat ((with_reducible refine EW.of ?_); cbv)))
    (simp only [← List.get?Internal.eq_def]; rw [show La.get?Internal q = _ from haq]; cbv)
    (first | refine ⟨_, hx, ?_⟩ | skip)
    cbv
    ((try cbv) <;> (repeat ((with_reducible refine EW.of ?_); cbv)))
    obtain ⟨J, hJ⟩ : ∃ J : Nat → AFr → Store → Prop, J = fun c fr L' => ∃ j, c = nk - j ∧ j ≤ nk ∧ fr = ⟨66, [(12, .int .i64 j), (11, .int .i64 (A.len [])), (5, .bool false), (4, .ref b 4 0 0), (0, .ref q 4 ix 0), (1, .int .i64 id)]⟩ ∧ L.length + 1 ≤ L'.length ∧ L'[b]? = some (some (.box 4 (.agg [.int .i64 0, .int .i64 0, .str ⟨⟨[]⟩⟩, .nils]))) ∧ (∀ y, y < L.length → L'[y]? = L[y]?) ∧ missX id (treesD ks) j := ⟨_, rfl⟩
    refine TW.loopE A (T0_ok hP) J (n0 := nk) (fr0 := ⟨66, [(12, .int .i64 0), (11, .int .i64 (A.len [])), (5, .bool false), (4, .ref b 4 0 0), (0, .ref q 4 ix 0), (1, .int .i64 id)]⟩) (L0 := La)
      (VS.pick rfl (.cons (Sub.refl _) (.cons (Sub.refl _) (.cons (Sub.refl _) (.cons (Sub.refl _) (.cons (Sub.refl _) (.cons (Sub.refl _) .nil)))))))
      (by rw [hJ]; exact ⟨0, rfl, Nat.zero_le _, rfl, by omega, hab, hax, fun i t hi => by omega⟩) ?_
    intro c fr L' hj
    rw [hJ] at hj
    obtain ⟨j, hc, hj, rfl, hl', hb', hs', hm⟩ := hj
    have hq' := (hs' q hlq).trans hq
    cbv
    ((try cbv) <;> (repeat ((with_reducible refine EW.of ?_); cbv)))
    refine bsplit (fun h2 => ?_) (fun h2 => ?_)
    · have h2 : j < nk := lt_nt h2 rfl hNN
      omega
    · have h2 : nk ≤ j := lt_nf h2 rfl hNN
      obtain rfl : j = nk := by omega
      ((try cbv) <;> (repeat ((with_reducible refine EW.of ?_); cbv)))
      (simp only [← List.get?Internal.eq_def]; rw [show L'.get?Internal b = _ from hb']; cbv)
      simp only [← List.get?Internal.eq_def]
      rw [show L'.get?Internal b = _ from hb']
      refine chk_iff.2 ⟨by rfl, ?_⟩
      generalize hL9 : List.set L' b _ = L9
      replace hL9 : L9 = L'.set b (some (.box 4 (.agg [.int .i64 0, .int .i64 0, .str ⟨⟨[]⟩⟩, .nils]))) := hL9.symm
      have hb9 : L9[b]? = some (some (.box 4 (.agg [.int .i64 0, .int .i64 0, .str ⟨⟨[]⟩⟩, .nils]))) := by rw [hL9, List.getElem?_set_self (List.getElem?_eq_some_iff.1 hb').1]
      have hres := hres0 L9 (by rw [hL9, List.length_set]; exact hl') (fun y hy => by rw [hL9, List.getElem?_set_ne (by omega)]; exact hs' y hy) hm
      cbv
      with_reducible refine EW.of ?_
      cbv
      simp only [← List.get?Internal.eq_def]
      rw [show L9.get?Internal b = _ from hb9]
      refine chk_iff.2 ⟨by rfl, ?_⟩
      cbv
      exact ⟨_, L9, VSV.refl _ _ _, hres⟩
  | some p =>
    replace hx : els[ix]? = some (.agg [.int .i64 i, .int .i64 k, .str s, .row p 4 0 nk]) := by rw [hx, hnk]; rfl
    have hNN : A.nat nk = (nk : Int) := A.ok_nat nk
    cbv
    ((try cbv) <;> (repeat ((with_reducible refine EW.of ?_); cbv)))
    refine byes (bleM _ _ (Nat.le_refl _)) ?_
    simp only [← List.length.eq_def, ← List.append.eq_def]
    rw [show L.append [some (.box 4 (.agg [.int .i64 0, .int .i64 0, .str ⟨⟨[]⟩⟩, .nils]))] = La from hLa.symm, ← hb]
    ((try cbv) <;> (repeat ((with_reducible refine EW.of ?_); cbv)))
    (simp only [← List.get?Internal.eq_def]; rw [show La.get?Internal q = _ from haq]; cbv)
    (first | refine ⟨_, hx, ?_⟩ | skip)
    cbv
    ((try cbv) <;> (repeat ((with_reducible refine EW.of ?_); cbv)))
    obtain ⟨J, hJ⟩ : ∃ J : Nat → AFr → Store → Prop, J = fun c fr L' => ∃ j, c = nk - j ∧ j ≤ nk ∧ fr = ⟨66, [(12, .int .i64 j), (11, .int .i64 (A.nat nk)), (5, .bool false), (4, .ref b 4 0 0), (0, .ref q 4 ix 0), (1, .int .i64 id)]⟩ ∧ L.length + 1 ≤ L'.length ∧ L'[b]? = some (some (.box 4 (.agg [.int .i64 0, .int .i64 0, .str ⟨⟨[]⟩⟩, .nils]))) ∧ (∀ y, y < L.length → L'[y]? = L[y]?) ∧ missX id (treesD ks) j := ⟨_, rfl⟩
    refine TW.loopE A (T0_ok hP) J (n0 := nk) (fr0 := ⟨66, [(12, .int .i64 0), (11, .int .i64 (A.nat nk)), (5, .bool false), (4, .ref b 4 0 0), (0, .ref q 4 ix 0), (1, .int .i64 id)]⟩) (L0 := La)
      (VS.pick rfl (.cons (Sub.refl _) (.cons (Sub.refl _) (.cons (Sub.refl _) (.cons (Sub.refl _) (.cons (Sub.refl _) (.cons (Sub.refl _) .nil)))))))
      (by rw [hJ]; exact ⟨0, rfl, Nat.zero_le _, rfl, by omega, hab, hax, fun i t hi => by omega⟩) ?_
    intro c fr L' hj
    rw [hJ] at hj
    obtain ⟨j, hc, hj, rfl, hl', hb', hs', hm⟩ := hj
    have hq' := (hs' q hlq).trans hq
    cbv
    ((try cbv) <;> (repeat ((with_reducible refine EW.of ?_); cbv)))
    refine bsplit (fun h2 => ?_) (fun h2 => ?_)
    · have h2 : j < nk := lt_nt h2 rfl hNN
      have hpL := (List.getElem?_eq_some_iff.1 hd.1).1
      have hp' : L'[p]? = some (some (.arr 4 (ks.map DT.cell))) := (hs' p hpL).trans hd.1
      obtain ⟨dj, hdj⟩ : ∃ d, ks[j]? = some d := ⟨_, List.getElem?_eq_getElem (by omega)⟩
      obtain ⟨ij, kj, sj, oj, kjs, hdd⟩ : ∃ i k s o ks, dj = DT.node i k s o ks := by cases dj; exact ⟨_, _, _, _, _, rfl⟩
      obtain ⟨kidj, hkidj⟩ : ∃ kid, kid = kidAV kjs.length oj := ⟨_, rfl⟩
      have hdc : dj.cell = .agg [.int .i64 ij, .int .i64 kj, .str sj, kidj] := by rw [hdd, hkidj]; rfl
      have hksc : kidj.scalar = true := by rw [hkidj]; exact kid_scal _ _
      have hidj : dj.tree.id = ij := by rw [hdd, DT.tree_id]
      obtain ⟨C, hC⟩ : ∃ C, C = ks.map DT.cell := ⟨_, rfl⟩
      have hCl : C.length = nk := by rw [hC, List.length_map, hnk]
      rw [← hC] at hp'
      have hcj : C[j]? = some (.agg [.int .i64 ij, .int .i64 kj, .str sj, kidj]) := by rw [hC, List.getElem?_map, hdj, ← hdc]; rfl
      have hnq := (List.nodup_cons.1 hn).1
      have hqp : q ≠ p := fun e => hnq (e ▸ List.mem_cons_self ..)
      ((try cbv) <;> (repeat ((with_reducible refine EW.of ?_); cbv)))
      (simp only [← List.get?Internal.eq_def]; rw [show L'.get?Internal q = _ from hq']; cbv)
      refine ⟨_, hx, ?_⟩
      cbv
      refine ⟨j, rfl, h2, ?_⟩
      rw [Nat.zero_add]
      cbv
      (simp only [← List.get?Internal.eq_def]; rw [show L'.get?Internal p = _ from hp']; cbv)
      refine ⟨_, hcj, ?_⟩
      cbv
      ((try cbv) <;> (repeat ((with_reducible refine EW.of ?_); cbv)))
      refine bsplit (fun h3 => ?_) (fun h3 => ?_)
      · have h3 : ij = id := eq_t h3 rfl rfl
        ((try cbv) <;> (repeat ((with_reducible refine EW.of ?_); cbv)))
        (simp only [← List.get?Internal.eq_def]; rw [show L'.get?Internal q = _ from hq']; cbv)
        refine ⟨_, hx, ?_⟩
        cbv
        refine ⟨j, rfl, h2, ?_⟩
        rw [Nat.zero_add]
        cbv
        (simp only [← List.get?Internal.eq_def]; rw [show L'.get?Internal p = _ from hp']; cbv)
        refine ⟨_, hcj, ?_⟩
        cbv
        simp only [← List.get?Internal.eq_def]
        rw [show L'.get?Internal b = _ from hb']
        refine chk_iff.2 ⟨by rw [hkidj]; cases oj <;> rfl, ?_⟩
        generalize hL1 : List.set L' b _ = L1
        replace hL1 : L1 = L'.set b (some (.box 4 (.agg [.int .i64 ij, .int .i64 kj, .str sj, kidj]))) := hL1.symm
        have hl1 : L1.length = L'.length := by rw [hL1, List.length_set]
        have hx1 : ∀ y, y ≠ b → L1[y]? = L'[y]? := fun y hy => by rw [hL1, List.getElem?_set_ne (Ne.symm hy)]
        have hb1 : L1[b]? = some (some (.box 4 (.agg [.int .i64 ij, .int .i64 kj, .str sj, kidj]))) := by rw [hL1, List.getElem?_set_self (List.getElem?_eq_some_iff.1 hb').1]
        have hq1 := (hx1 q (by omega)).trans hq'
        have hp1 := (hx1 p (by omega)).trans hp'
        obtain ⟨es, hes⟩ : ∃ e, e = C.take j ++ C.drop (j + 1) := ⟨_, rfl⟩
        have hesl : es.length = nk - 1 := by rw [hes, List.length_append, List.length_take, List.length_drop, hCl]; omega
        obtain ⟨L2, hL2⟩ : ∃ M, M = L1.set p none ++ [some (AO.arr 4 es)] := ⟨_, rfl⟩
        have hl2 : L2.length = L1.length + 1 := by rw [hL2]; simp
        obtain ⟨j1, hj1⟩ : ∃ x, x = j + 1 := ⟨_, rfl⟩
        have hadd : A.op .add .i64 (j : Int) 1 = (j1 : Int) := by rw [hj1]; exact inc_eq A (by omega)
        cbv
        with_reducible refine EW.of ?_
        cbv
        refine TW.drawE (A := A) false [] L1 [(15, L2)] rfl (T0_ok hP) (hP ▸ follows_mixed) (by kernel_rfl) rfl (by kernel_rfl) (by cbv) (by first | kernel_rfl | cbv) rfl rfl (by rw [Bool.and_eq_true, Bool.and_eq_true]; exact ⟨rfl, by rw [Nat.ble_eq, List.nil_append]; omega, by simp only [List.all_cons, List.all_nil, Bool.and_true, List.nil_append, Nat.ble_eq]; omega⟩) ?_
        cbv
        (simp only [← List.get?Internal.eq_def]; rw [show L1.get?Internal q = _ from hq1]; cbv)
        refine ⟨_, hx, ?_⟩
        cbv
        refine ⟨j, rfl, j, rfl, rfl, by omega, ?_⟩
        cbv
        (simp only [← List.get?Internal.eq_def]; rw [show L1.get?Internal q = _ from hq1]; cbv)
        refine ⟨_, hx, ?_⟩
        cbv
        refine ⟨j1, hadd, ?_⟩
        obtain ⟨r2, hr2⟩ : ∃ r, r = L1.length := ⟨_, rfl⟩
        obtain ⟨q2, hq2⟩ : ∃ r, r = nk - 1 := ⟨_, rfl⟩
        have hap : L2[r2]? = some (some (.arr 4 es)) := by rw [hL2, hr2]; simp
        have hqL2 : L2[q]? = some (some (.arr 4 els)) := by rw [hL2, List.getElem?_append_left (by simp; omega), List.getElem?_set_ne (Ne.symm hqp), hq1]
        have hbL2 : L2[b]? = some (some (.box 4 (.agg [.int .i64 ij, .int .i64 kj, .str sj, kidj]))) := by rw [hL2, List.getElem?_append_left (by simp; omega), List.getElem?_set_ne (by omega), hb1]
        have hyL2 : ∀ y, y < L.length → y ≠ q → y ≠ p → L2[y]? = L[y]? := fun y h1 h2 h3 => by rw [hL2, List.getElem?_append_left (by simp; omega), List.getElem?_set_ne (Ne.symm h3), hx1 y (by omega), hs' y h1]
        by_cases hlast : j1 = nk
        · refine Or.inr ⟨hlast, Nat.le_refl _, ?_⟩
          have hdr : C.drop (j + 1) = [] := List.drop_eq_nil_of_le (by omega)
          cbv
          simp only [← List.length.eq_def, ← List.get?Internal.eq_def]
          refine byes (bleM _ _ (by omega)) ?_
          rw [show L1.get?Internal p = _ from hp1]
          refine chk_iff.2 ⟨by rfl, ?_⟩
          refine ⟨⟨rfl⟩, q2, es, by show q2 = j + 0; omega, by rw [hes, hdr], by omega, by show q2 * 56 ≤ _; omega, by omega, ?_⟩
          refine ⟨by rw [hL2]; rfl, ?_⟩
          rw [← hr2]
          cbv
          simp only [← List.get?Internal.eq_def]
          rw [show L2.get?Internal q = _ from hqL2]
          refine chk_iff.2 ⟨by rfl, ?_⟩
          refine ⟨_, els.set ix (.agg [.int .i64 i, .int .i64 k, .str s, .row r2 4 0 q2]), hx, by rfl, by rfl, ?_⟩
          generalize hL3 : List.set L2 q _ = L3
          replace hL3 : L3 = L2.set q (some (AO.arr 4 (els.set ix (.agg [.int .i64 i, .int .i64 k, .str s, .row r2 4 0 q2])))) := hL3.symm
          have hb3 : L3[b]? = some (some (.box 4 (.agg [.int .i64 ij, .int .i64 kj, .str sj, kidj]))) := by rw [hL3, List.getElem?_set_ne (by omega)]; exact hbL2
          cbv
          ((try cbv) <;> (repeat ((with_reducible refine EW.of ?_); cbv)))
          (simp only [← List.get?Internal.eq_def]; rw [show L3.get?Internal b = _ from hb3]; cbv)
          simp only [← List.get?Internal.eq_def]
          rw [show L3.get?Internal b = _ from hb3]
          refine chk_iff.2 ⟨by rw [hkidj]; cases oj <;> rfl, ?_⟩
          generalize hL4 : List.set L3 b _ = L4
          replace hL4 : L4 = L3.set b (some (.box 4 (.agg [.int .i64 ij, .int .i64 kj, .str sj, kidj]))) := hL4.symm
          have hb4 : L4[b]? = some (some (.box 4 (.agg [.int .i64 ij, .int .i64 kj, .str sj, kidj]))) := by rw [hL4, List.getElem?_set_self (List.getElem?_eq_some_iff.1 hb3).1]
          have hres : R (.ret (.tup [.agg [.int .i64 ij, .int .i64 kj, .str sj, kidj], .bool true])) L4 := by
            rw [hR, ← hdc]
            have hl4 : L4.length = L1.length + 1 := by rw [hL4, hL3, List.length_set, List.length_set, hl2]
            refine tk_hit hd hn hm hdj (by rw [hidj]; exact h3) (by omega) (show L.length ≤ r2 by omega) ?_ ?_ fun y h1 h2 h3 => ?_
            · rw [hL4, List.getElem?_set_ne (by omega), hL3, List.getElem?_set_self (List.getElem?_eq_some_iff.1 hqL2).1, hq2, hnk]
            · rw [hL4, List.getElem?_set_ne (by omega), hL3, List.getElem?_set_ne (by omega), hap, hes, hC, List.map_append, List.map_take, List.map_drop]
            · rw [hL4, List.getElem?_set_ne (by omega), hL3, List.getElem?_set_ne (Ne.symm h2), hyL2 y h1 h2 h3]
          cbv
          with_reducible refine EW.of ?_
          cbv
          simp only [← List.get?Internal.eq_def]
          rw [show L4.get?Internal b = _ from hb4]
          refine chk_iff.2 ⟨by rfl, ?_⟩
          cbv
          exact ⟨_, L4, VSV.refl _ _ _, hres⟩
        · refine Or.inl ⟨by omega, Nat.le_refl _, ?_⟩
          obtain ⟨jn, hjn⟩ : ∃ x, x = nk - j1 := ⟨_, rfl⟩
          rw [Nat.zero_add, ← hjn]
          cbv
          simp only [← List.length.eq_def, ← List.get?Internal.eq_def]
          refine byes (bleM _ _ (by omega)) ?_
          rw [show L1.get?Internal p = _ from hp1]
          refine chk_iff.2 ⟨by rfl, ?_⟩
          refine ⟨C.drop (j + 1), by rw [hj1, List.take_of_length_le (by rw [List.length_drop]; omega)], by omega, ?_⟩
          rw [hp1]
          refine chk_iff.2 ⟨by rfl, ?_⟩
          have hdsc : escal (C.drop (j + 1)) = true := by rw [hC, ← List.map_drop]; exact cells_scal _
          refine ⟨⟨hdsc⟩, q2, es, by rw [List.length_drop]; omega, by rw [hes], by omega, by show q2 * 56 ≤ _; omega, by omega, ?_⟩
          refine ⟨by rw [hL2]; rfl, ?_⟩
          rw [← hr2]
          cbv
          simp only [← List.get?Internal.eq_def]
          rw [show L2.get?Internal q = _ from hqL2]
          refine chk_iff.2 ⟨by rfl, ?_⟩
          refine ⟨_, els.set ix (.agg [.int .i64 i, .int .i64 k, .str s, .row r2 4 0 q2]), hx, by rfl, by rfl, ?_⟩
          generalize hL3 : List.set L2 q _ = L3
          replace hL3 : L3 = L2.set q (some (AO.arr 4 (els.set ix (.agg [.int .i64 i, .int .i64 k, .str s, .row r2 4 0 q2])))) := hL3.symm
          have hb3 : L3[b]? = some (some (.box 4 (.agg [.int .i64 ij, .int .i64 kj, .str sj, kidj]))) := by rw [hL3, List.getElem?_set_ne (by omega)]; exact hbL2
          cbv
          ((try cbv) <;> (repeat ((with_reducible refine EW.of ?_); cbv)))
          (simp only [← List.get?Internal.eq_def]; rw [show L3.get?Internal b = _ from hb3]; cbv)
          simp only [← List.get?Internal.eq_def]
          rw [show L3.get?Internal b = _ from hb3]
          refine chk_iff.2 ⟨by rw [hkidj]; cases oj <;> rfl, ?_⟩
          generalize hL4 : List.set L3 b _ = L4
          replace hL4 : L4 = L3.set b (some (.box 4 (.agg [.int .i64 ij, .int .i64 kj, .str sj, kidj]))) := hL4.symm
          have hb4 : L4[b]? = some (some (.box 4 (.agg [.int .i64 ij, .int .i64 kj, .str sj, kidj]))) := by rw [hL4, List.getElem?_set_self (List.getElem?_eq_some_iff.1 hb3).1]
          have hres : R (.ret (.tup [.agg [.int .i64 ij, .int .i64 kj, .str sj, kidj], .bool true])) L4 := by
            rw [hR, ← hdc]
            have hl4 : L4.length = L1.length + 1 := by rw [hL4, hL3, List.length_set, List.length_set, hl2]
            refine tk_hit hd hn hm hdj (by rw [hidj]; exact h3) (by omega) (show L.length ≤ r2 by omega) ?_ ?_ fun y h1 h2 h3 => ?_
            · rw [hL4, List.getElem?_set_ne (by omega), hL3, List.getElem?_set_self (List.getElem?_eq_some_iff.1 hqL2).1, hq2, hnk]
            · rw [hL4, List.getElem?_set_ne (by omega), hL3, List.getElem?_set_ne (by omega), hap, hes, hC, List.map_append, List.map_take, List.map_drop]
            · rw [hL4, List.getElem?_set_ne (by omega), hL3, List.getElem?_set_ne (Ne.symm h2), hyL2 y h1 h2 h3]
          cbv
          with_reducible refine EW.of ?_
          cbv
          simp only [← List.get?Internal.eq_def]
          rw [show L4.get?Internal b = _ from hb4]
          refine chk_iff.2 ⟨by rfl, ?_⟩
          cbv
          exact ⟨_, L4, VSV.refl _ _ _, hres⟩
      · have h3 : ij ≠ id := eq_f h3 rfl rfl
        have hnf := (List.nodup_cons.1 hn).2
        have hdf := foot_sep hdj (List.nodup_cons.1 hnf).2
        have hpf : p ∉ dj.foot := fun e => (List.nodup_cons.1 hnf).1 (foot_mem (List.mem_of_getElem? hdj) e)
        have hltd := DT.ok.lt hd
        have hL'ok : oksD L' ks := oksD.same (fun y hy => hs' y (hltd y (List.mem_cons_of_mem _ hy))) hd.2
        have hwj : within m dj.tree := hw.2 _ (by rw [treesD_map]; exact List.mem_map.2 ⟨dj, List.mem_of_getElem? hdj, rfl⟩)
        have hcall := ih dj L' p j C hwj (oks_mem (List.mem_of_getElem? hdj) hL'ok) (List.nodup_cons.2 ⟨hpf, hdf.2⟩) hp' (by rw [hcj, hdc])
        have hqdj : q ∉ p :: dj.foot := fun h => by
          rcases List.mem_cons.1 h with h | h
          · exact hqp h
          · exact hnq (List.mem_cons_of_mem _ (foot_mem (List.mem_of_getElem? hdj) h))
        have hbdj : b ∉ p :: dj.foot := fun h => by
          rcases List.mem_cons.1 h with h | h
          · omega
          · have := hltd b (List.mem_cons_of_mem _ (foot_mem (List.mem_of_getElem? hdj) h)); omega
        have hj1 : A.op .add .i64 (j : Int) 1 = ((j + 1 : Nat) : Int) := inc_eq A (by omega)
        ((try cbv) <;> (repeat ((with_reducible refine EW.of ?_); cbv)))
        (simp only [← List.get?Internal.eq_def]; rw [show L'.get?Internal q = _ from hq']; cbv)
        refine ⟨_, hx, ?_⟩
        cbv
        refine ⟨j, rfl, h2, ?_⟩
        rw [Nat.zero_add]
        cbv
        simp only [← List.length.eq_def]
        refine byes (bleM _ _ (by omega)) ?_
        refine ⟨Ent.of (hP ▸ Try.func52) rfl, TC.mono hcall ?_⟩
        rintro y L2 ⟨hl2, ⟨htn, rfl, hs2⟩ | ⟨e, d2, hts, rfl, hp2, hd2, he2, hnd2, hsub2, hs2⟩⟩
        · unfold z4
          have hb2 := (hs2 b (by omega)).trans hb'
          cbv
          ((try cbv) <;> (repeat ((with_reducible refine EW.of ?_); cbv)))
          simp only [← List.get?Internal.eq_def]
          rw [show L2.get?Internal b = _ from hb2]
          refine chk_iff.2 ⟨by rfl, ?_⟩
          generalize hL3 : List.set L2 b _ = L3
          replace hL3 : L3 = L2.set b (some (AO.box 4 (.agg [.int .i64 0, .int .i64 0, .str ⟨⟨[]⟩⟩, .nils]))) := hL3.symm
          have hb3 : L3[b]? = some (some (.box 4 (.agg [.int .i64 0, .int .i64 0, .str ⟨⟨[]⟩⟩, .nils]))) := by rw [hL3, List.getElem?_set_self (by omega)]
          cbv
          ((try cbv) <;> (repeat ((with_reducible refine EW.of ?_); cbv)))
          refine ⟨⟨nk - (j + 1), ⟨66, [(12, .int .i64 ((j + 1 : Nat) : Int)), (11, .int .i64 (A.nat nk)), (5, .bool false), (4, .ref b 4 0 0), (0, .ref q 4 ix 0), (1, .int .i64 id)]⟩, L3, by omega, VS.pick rfl (.cons ?_ (.cons (Sub.refl _) (.cons (Sub.refl _) (.cons (Sub.refl _) (.cons (Sub.refl _) (.cons (Sub.refl _) .nil)))))), ?_⟩⟩
          · show Tw.Sub (.int .i64 (A.op .add .i64 (j : Int) 1)) _
            rw [hj1]
            exact Sub.refl _
          · rw [hJ]
            refine ⟨j + 1, rfl, h2, rfl, by rw [hL3, List.length_set]; omega, hb3, fun y hy => ?_, hm.succ (treesD_get hdj) (by rw [hidj]; exact h3) htn⟩
            rw [hL3, List.getElem?_set_ne (by omega), hs2 y (by omega), hs' y hy]
        · obtain ⟨ei, ek, es, eo, eks⟩ := e
          obtain ⟨kide, hkide⟩ : ∃ kid, kid = kidAV eks.length eo := ⟨_, rfl⟩
          have hec : (DT.node ei ek es eo eks).cell = .agg [.int .i64 ei, .int .i64 ek, .str es, kide] := by rw [hkide]; rfl
          have hb2 := (hs2 b (by omega) hbdj).trans hb'
          have hq2 := (hs2 q (by omega) hqdj).trans hq'
          rw [hec]
          cbv
          ((try cbv) <;> (repeat ((with_reducible refine EW.of ?_); cbv)))
          simp only [← List.get?Internal.eq_def]
          rw [show L2.get?Internal b = _ from hb2]
          refine chk_iff.2 ⟨by rw [hkide]; cases eo <;> rfl, ?_⟩
          generalize hL3 : List.set L2 b _ = L3
          replace hL3 : L3 = L2.set b (some (AO.box 4 (.agg [.int .i64 ei, .int .i64 ek, .str es, kide]))) := hL3.symm
          have hb3 : L3[b]? = some (some (.box 4 (.agg [.int .i64 ei, .int .i64 ek, .str es, kide]))) := by rw [hL3, List.getElem?_set_self (by omega)]
          cbv
          ((try cbv) <;> (repeat ((with_reducible refine EW.of ?_); cbv)))
          (simp only [← List.get?Internal.eq_def]; rw [show L3.get?Internal b = _ from hb3]; cbv)
          simp only [← List.get?Internal.eq_def]
          rw [show L3.get?Internal b = _ from hb3]
          refine chk_iff.2 ⟨by rw [hkide]; cases eo <;> rfl, ?_⟩
          generalize hL4 : List.set L3 b _ = L4
          replace hL4 : L4 = L3.set b (some (AO.box 4 (.agg [.int .i64 ei, .int .i64 ek, .str es, kide]))) := hL4.symm
          have hb4 : L4[b]? = some (some (.box 4 (.agg [.int .i64 ei, .int .i64 ek, .str es, kide]))) := by rw [hL4, List.getElem?_set_self (List.getElem?_eq_some_iff.1 hb3).1]
          have h42 : ∀ y, y ≠ b → L4[y]? = L2[y]? := fun y hy => by rw [hL4, List.getElem?_set_ne (Ne.symm hy), hL3, List.getElem?_set_ne (Ne.symm hy)]
          have hfb : ∀ y ∈ d2.foot ++ (DT.node ei ek es eo eks).foot, y ≠ b := fun y hy e => by
            subst e
            rcases hsub2 y hy with h | h
            · exact hbdj (List.mem_cons_of_mem _ h)
            · omega
          have hres : R (.ret (.tup [.agg [.int .i64 ei, .int .i64 ek, .str es, kide], .bool true])) L4 := by
            rw [hR, ← hec]
            have hl4 : L4.length = L2.length := by rw [hL4, hL3, List.length_set, List.length_set]
            refine tk_deep (L1 := L') hd hn hlq hm hdj (by rw [hidj]; exact h3) hts (by omega) (by omega) ?_ ?_ (DT.ok.same (fun y hy => h42 y (hfb y (List.mem_append_left _ hy))) hd2) (DT.ok.same (fun y hy => h42 y (hfb y (List.mem_append_right _ hy))) he2) hnd2 hsub2 fun y h1 h2 => ?_
            · rw [h42 q (by omega), hq2, ← hnk]
              congr 3
              exact (List.ext_getElem? fun y => by
                by_cases hy : ix = y
                · subst hy; rw [List.getElem?_set_self (List.getElem?_eq_some_iff.1 hx).1, hx]
                · rw [List.getElem?_set_ne hy]).symm
            · rw [h42 p (by omega), hp2, hC]
            · rw [h42 y (by omega), hs2 y (by omega) h2, hs' y h1]
          cbv
          with_reducible refine EW.of ?_
          cbv
          simp only [← List.get?Internal.eq_def]
          rw [show L4.get?Internal b = _ from hb4]
          refine chk_iff.2 ⟨by rfl, ?_⟩
          cbv
          exact ⟨_, L4, VSV.refl _ _ _, hres⟩
    · have h2 : nk ≤ j := lt_nf h2 rfl hNN
      obtain rfl : j = nk := by omega
      ((try cbv) <;> (repeat ((with_reducible refine EW.of ?_); cbv)))
      (simp only [← List.get?Internal.eq_def]; rw [show L'.get?Internal b = _ from hb']; cbv)
      simp only [← List.get?Internal.eq_def]
      rw [show L'.get?Internal b = _ from hb']
      refine chk_iff.2 ⟨by rfl, ?_⟩
      generalize hL9 : List.set L' b _ = L9
      replace hL9 : L9 = L'.set b (some (.box 4 (.agg [.int .i64 0, .int .i64 0, .str ⟨⟨[]⟩⟩, .nils]))) := hL9.symm
      have hb9 : L9[b]? = some (some (.box 4 (.agg [.int .i64 0, .int .i64 0, .str ⟨⟨[]⟩⟩, .nils]))) := by rw [hL9, List.getElem?_set_self (List.getElem?_eq_some_iff.1 hb').1]
      have hres := hres0 L9 (by rw [hL9, List.length_set]; exact hl') (fun y hy => by rw [hL9, List.getElem?_set_ne (by omega)]; exact hs' y hy) hm
      cbv
      with_reducible refine EW.of ?_
      cbv
      simp only [← List.get?Internal.eq_def]
      rw [show L9.get?Internal b = _ from hb9]
      refine chk_iff.2 ⟨by rfl, ?_⟩
      cbv
      exact ⟨_, L9, VSV.refl _ _ _, hres⟩
end Go.Proofs.Ytaieiigfheabfaa

/-! step.take at a box. -/
namespace Go.Proofs.Ytaieiigfheabfaa
open Go.Proofs.Ytaieiigfheabfaa.Tw
set_option maxHeartbeats 4000000 in
theorem take52b (A : Ar) {P : Program} (hP : P = Try.prog) (id : Int) (m : Nat) (d : DT) (L : Store) (q : Nat) (hw : within (m + 1) d.tree) (hd : d.ok L) (hn : (q :: d.foot).Nodup) (hq : L[q]? = some (some (.box 4 d.cell))) : TC P 52 [.ref q 4 0 0, .int .i64 id] L (tkR id d q (fun c => .box 4 c) L) := by
  have ih := take52 A hP id m
  obtain ⟨i, k, s, o, ks⟩ := d
  have hwl := hw.1
  rw [treesD_len] at hwl
  obtain ⟨nk, hnk⟩ : ∃ n, n = ks.length := ⟨_, rfl⟩
  have hlq := (List.getElem?_eq_some_iff.1 hq).1
  refine TC.of_ewp A T0 (T0_ok hP) (hP ▸ Try.func52) rfl _ rfl (by simp) ?_
  obtain ⟨R, hR⟩ : ∃ R, R = tkR id (.node i k s o ks) q (fun c => .box 4 c) L := ⟨_, rfl⟩
  rw [← hR]
  obtain ⟨La, hLa⟩ : ∃ M : Store, M = L ++ [some (.box 4 (.agg [.int .i64 0, .int .i64 0, .str ⟨⟨[]⟩⟩, .nils]))] := ⟨_, rfl⟩
  obtain ⟨b, hb⟩ : ∃ b, b = L.length := ⟨_, rfl⟩
  have hal : La.length = L.length + 1 := by rw [hLa]; simp
  have hab : La[b]? = some (some (.box 4 (.agg [.int .i64 0, .int .i64 0, .str ⟨⟨[]⟩⟩, .nils]))) := by rw [hLa, hb]; simp
  have hax : ∀ x, x < L.length → La[x]? = L[x]? := fun x hx => by rw [hLa, List.getElem?_append_left hx]
  have hres0 : ∀ L' : Store, L.length + 1 ≤ L'.length → (∀ y, y < L.length → L'[y]? = L[y]?) → missX id (treesD ks) nk → R (.ret (.tup [.agg [.int .i64 0, .int .i64 0, .str ⟨⟨[]⟩⟩, .nils], .bool false])) L' := fun L' h1 h2 h3 => by
    rw [hR]
    exact ⟨by omega, .inl ⟨by rw [takeD_tree, takeTs_none h3 (by rw [treesD_len]; omega)]; rfl, rfl, h2⟩⟩
  have hjend : nk < 9223372036854775807 := by omega
  have haq := (hax q hlq).trans hq
  cases o with
  | none =>
    have hks : ks = [] := hd.1
    have hnk0 : nk = 0 := by rw [hnk, hks]; rfl
    replace hq : L[q]? = some (some (.box 4 (.agg [.int .i64 i, .int .i64 k, .str s, .sl 4 []]))) := hq
    replace haq := (hax q hlq).trans hq
    have hNN : A.len [] = (nk : Int) := by rw [A.ok_len, hnk0]; rfl
    cbv
    ((try cbv) <;> (repeat ((with_reducible refine EW.of ?_); cbv)))
    refine byes (bleM _ _ (Nat.le_refl _)) ?_
    simp only [← List.length.eq_def, ← List.append.eq_def]
    rw [show L.append [some (.box 4 (.agg [.int .i64 0, .int .i64 0, .str ⟨⟨[]⟩⟩, .nils]))] = La from hLa.symm, ← hb]
    ((try cbv) <;> (repeat ((with_reducible refine EW.of ?_); cbv)))
    (simp only [← List.get?Internal.eq_def]; rw [show La.get?Internal q = _ from haq]; cbv)
    cbv
    ((try cbv) <;> (repeat ((with_reducible refine EW.of ?_); cbv)))
    obtain ⟨J, hJ⟩ : ∃ J : Nat → AFr → Store → Prop, J = fun c fr L' => ∃ j, c = nk - j ∧ j ≤ nk ∧ fr = ⟨66, [(12, .int .i64 j), (11, .int .i64 (A.len [])), (5, .bool false), (4, .ref b 4 0 0), (0, .ref q 4 0 0), (1, .int .i64 id)]⟩ ∧ L.length + 1 ≤ L'.length ∧ L'[b]? = some (some (.box 4 (.agg [.int .i64 0, .int .i64 0, .str ⟨⟨[]⟩⟩, .nils]))) ∧ (∀ y, y < L.length → L'[y]? = L[y]?) ∧ missX id (treesD ks) j := ⟨_, rfl⟩
    refine TW.loopE A (T0_ok hP) J (n0 := nk) (fr0 := ⟨66, [(12, .int .i64 0), (11, .int .i64 (A.len [])), (5, .bool false), (4, .ref b 4 0 0), (0, .ref q 4 0 0), (1, .int .i64 id)]⟩) (L0 := La)
      (VS.pick rfl (.cons (Sub.refl _) (.cons (Sub.refl _) (.cons (Sub.refl _) (.cons (Sub.refl _) (.cons (Sub.refl _) (.cons (Sub.refl _) .nil)))))))
      (by rw [hJ]; exact ⟨0, rfl, Nat.zero_le _, rfl, by omega, hab, hax, fun i t hi => by omega⟩) ?_
    intro c fr L' hj
    rw [hJ] at hj
    obtain ⟨j, hc, hj, rfl, hl', hb', hs', hm⟩ := hj
    have hq' := (hs' q hlq).trans hq
    cbv
    ((try cbv) <;> (repeat ((with_reducible refine EW.of ?_); cbv)))
    refine bsplit (fun h2 => ?_) (fun h2 => ?_)
    · have h2 : j < nk := lt_nt h2 rfl hNN
      omega
    · have h2 : nk ≤ j := lt_nf h2 rfl hNN
      obtain rfl : j = nk := by omega
      ((try cbv) <;> (repeat ((with_reducible refine EW.of ?_); cbv)))
      (simp only [← List.get?Internal.eq_def]; rw [show L'.get?Internal b = _ from hb']; cbv)
      simp only [← List.get?Internal.eq_def]
      rw [show L'.get?Internal b = _ from hb']
      refine chk_iff.2 ⟨by rfl, ?_⟩
      generalize hL9 : List.set L' b _ = L9
      replace hL9 : L9 = L'.set b (some (.box 4 (.agg [.int .i64 0, .int .i64 0, .str ⟨⟨[]⟩⟩, .nils]))) := hL9.symm
      have hb9 : L9[b]? = some (some (.box 4 (.agg [.int .i64 0, .int .i64 0, .str ⟨⟨[]⟩⟩, .nils]))) := by rw [hL9, List.getElem?_set_self (List.getElem?_eq_some_iff.1 hb').1]
      have hres := hres0 L9 (by rw [hL9, List.length_set]; exact hl') (fun y hy => by rw [hL9, List.getElem?_set_ne (by omega)]; exact hs' y hy) hm
      cbv
      with_reducible refine EW.of ?_
      cbv
      simp only [← List.get?Internal.eq_def]
      rw [show L9.get?Internal b = _ from hb9]
      refine chk_iff.2 ⟨by rfl, ?_⟩
      cbv
      exact ⟨_, L9, VSV.refl _ _ _, hres⟩
  | some p =>
    replace hq : L[q]? = some (some (.box 4 (.agg [.int .i64 i, .int .i64 k, .str s, .row p 4 0 nk]))) := by rw [hq, hnk]; rfl
    replace haq := (hax q hlq).trans hq
    have hNN : A.nat nk = (nk : Int) := A.ok_nat nk
    cbv
    ((try cbv) <;> (repeat ((with_reducible refine EW.of ?_); cbv)))
    refine byes (bleM _ _ (Nat.le_refl _)) ?_
    simp only [← List.length.eq_def, ← List.append.eq_def]
    rw [show L.append [some (.box 4 (.agg [.int .i64 0, .int .i64 0, .str ⟨⟨[]⟩⟩, .nils]))] = La from hLa.symm, ← hb]
    ((try cbv) <;> (repeat ((with_reducible refine EW.of ?_); cbv)))
    (simp only [← List.get?Internal.eq_def]; rw [show La.get?Internal q = _ from haq]; cbv)
    cbv
    ((try cbv) <;> (repeat ((with_reducible refine EW.of ?_); cbv)))
    obtain ⟨J, hJ⟩ : ∃ J : Nat → AFr → Store → Prop, J = fun c fr L' => ∃ j, c = nk - j ∧ j ≤ nk ∧ fr = ⟨66, [(12, .int .i64 j), (11, .int .i64 (A.nat nk)), (5, .bool false), (4, .ref b 4 0 0), (0, .ref q 4 0 0), (1, .int .i64 id)]⟩ ∧ L.length + 1 ≤ L'.length ∧ L'[b]? = some (some (.box 4 (.agg [.int .i64 0, .int .i64 0, .str ⟨⟨[]⟩⟩, .nils]))) ∧ (∀ y, y < L.length → L'[y]? = L[y]?) ∧ missX id (treesD ks) j := ⟨_, rfl⟩
    refine TW.loopE A (T0_ok hP) J (n0 := nk) (fr0 := ⟨66, [(12, .int .i64 0), (11, .int .i64 (A.nat nk)), (5, .bool false), (4, .ref b 4 0 0), (0, .ref q 4 0 0), (1, .int .i64 id)]⟩) (L0 := La)
      (VS.pick rfl (.cons (Sub.refl _) (.cons (Sub.refl _) (.cons (Sub.refl _) (.cons (Sub.refl _) (.cons (Sub.refl _) (.cons (Sub.refl _) .nil)))))))
      (by rw [hJ]; exact ⟨0, rfl, Nat.zero_le _, rfl, by omega, hab, hax, fun i t hi => by omega⟩) ?_
    intro c fr L' hj
    rw [hJ] at hj
    obtain ⟨j, hc, hj, rfl, hl', hb', hs', hm⟩ := hj
    have hq' := (hs' q hlq).trans hq
    cbv
    ((try cbv) <;> (repeat ((with_reducible refine EW.of ?_); cbv)))
    refine bsplit (fun h2 => ?_) (fun h2 => ?_)
    · have h2 : j < nk := lt_nt h2 rfl hNN
      have hpL := (List.getElem?_eq_some_iff.1 hd.1).1
      have hp' : L'[p]? = some (some (.arr 4 (ks.map DT.cell))) := (hs' p hpL).trans hd.1
      obtain ⟨dj, hdj⟩ : ∃ d, ks[j]? = some d := ⟨_, List.getElem?_eq_getElem (by omega)⟩
      obtain ⟨ij, kj, sj, oj, kjs, hdd⟩ : ∃ i k s o ks, dj = DT.node i k s o ks := by cases dj; exact ⟨_, _, _, _, _, rfl⟩
      obtain ⟨kidj, hkidj⟩ : ∃ kid, kid = kidAV kjs.length oj := ⟨_, rfl⟩
      have hdc : dj.cell = .agg [.int .i64 ij, .int .i64 kj, .str sj, kidj] := by rw [hdd, hkidj]; rfl
      have hksc : kidj.scalar = true := by rw [hkidj]; exact kid_scal _ _
      have hidj : dj.tree.id = ij := by rw [hdd, DT.tree_id]
      obtain ⟨C, hC⟩ : ∃ C, C = ks.map DT.cell := ⟨_, rfl⟩
      have hCl : C.length = nk := by rw [hC, List.length_map, hnk]
      rw [← hC] at hp'
      have hcj : C[j]? = some (.agg [.int .i64 ij, .int .i64 kj, .str sj, kidj]) := by rw [hC, List.getElem?_map, hdj, ← hdc]; rfl
      have hnq := (List.nodup_cons.1 hn).1
      have hqp : q ≠ p := fun e => hnq (e ▸ List.mem_cons_self ..)
      ((try cbv) <;> (repeat ((with_reducible refine EW.of ?_); cbv)))
      (simp only [← List.get?Internal.eq_def]; rw [show L'.get?Internal q = _ from hq']; cbv)
      refine ⟨j, rfl, h2, ?_⟩
      rw [Nat.zero_add]
      cbv
      (simp only [← List.get?Internal.eq_def]; rw [show L'.get?Internal p = _ from hp']; cbv)
      refine ⟨_, hcj, ?_⟩
      cbv
      ((try cbv) <;> (repeat ((with_reducible refine EW.of ?_); cbv)))
      refine bsplit (fun h3 => ?_) (fun h3 => ?_)
      · have h3 : ij = id := eq_t h3 rfl rfl
        ((try cbv) <;> (repeat ((with_reducible refine EW.of ?_); cbv)))
        (simp only [← List.get?Internal.eq_def]; rw [show L'.get?Internal q = _ from hq']; cbv)
        refine ⟨j, rfl, h2, ?_⟩
        rw [Nat.zero_add]
        cbv
        (simp only [← List.get?Internal.eq_def]; rw [show L'.get?Internal p = _ from hp']; cbv)
        refine ⟨_, hcj, ?_⟩
        cbv
        simp only [← List.get?Internal.eq_def]
        rw [show L'.get?Internal b = _ from hb']
        refine chk_iff.2 ⟨by rw [hkidj]; cases oj <;> rfl, ?_⟩
        generalize hL1 : List.set L' b _ = L1
        replace hL1 : L1 = L'.set b (some (.box 4 (.agg [.int .i64 ij, .int .i64 kj, .str sj, kidj]))) := hL1.symm
        have hl1 : L1.length = L'.length := by rw [hL1, List.length_set]
        have hx1 : ∀ y, y ≠ b → L1[y]? = L'[y]? := fun y hy => by rw [hL1, List.getElem?_set_ne (Ne.symm hy)]
        have hb1 : L1[b]? = some (some (.box 4 (.agg [.int .i64 ij, .int .i64 kj, .str sj, kidj]))) := by rw [hL1, List.getElem?_set_self (List.getElem?_eq_some_iff.1 hb').1]
        have hq1 := (hx1 q (by omega)).trans hq'
        have hp1 := (hx1 p (by omega)).trans hp'
        obtain ⟨es, hes⟩ : ∃ e, e = C.take j ++ C.drop (j + 1) := ⟨_, rfl⟩
        have hesl : es.length = nk - 1 := by rw [hes, List.length_append, List.length_take, List.length_drop, hCl]; omega
        obtain ⟨L2, hL2⟩ : ∃ M, M = L1.set p none ++ [some (AO.arr 4 es)] := ⟨_, rfl⟩
        have hl2 : L2.length = L1.length + 1 := by rw [hL2]; simp
        obtain ⟨j1, hj1⟩ : ∃ x, x = j + 1 := ⟨_, rfl⟩
        have hadd : A.op .add .i64 (j : Int) 1 = (j1 : Int) := by rw [hj1]; exact inc_eq A (by omega)
        cbv
        with_reducible refine EW.of ?_
        cbv
        refine TW.drawE (A := A) false [] L1 [(15, L2)] rfl (T0_ok hP) (hP ▸ follows_mixed) (by kernel_rfl) rfl (by kernel_rfl) (by cbv) (by first | kernel_rfl | cbv) rfl rfl (by rw [Bool.and_eq_true, Bool.and_eq_true]; exact ⟨rfl, by rw [Nat.ble_eq, List.nil_append]; omega, by simp only [List.all_cons, List.all_nil, Bool.and_true, List.nil_append, Nat.ble_eq]; omega⟩) ?_
        cbv
        (simp only [← List.get?Internal.eq_def]; rw [show L1.get?Internal q = _ from hq1]; cbv)
        refine ⟨j, rfl, j, rfl, rfl, by omega, ?_⟩
        cbv
        (simp only [← List.get?Internal.eq_def]; rw [show L1.get?Internal q = _ from hq1]; cbv)
        refine ⟨j1, hadd, ?_⟩
        obtain ⟨r2, hr2⟩ : ∃ r, r = L1.length := ⟨_, rfl⟩
        obtain ⟨q2, hq2⟩ : ∃ r, r = nk - 1 := ⟨_, rfl⟩
        have hap : L2[r2]? = some (some (.arr 4 es)) := by rw [hL2, hr2]; simp
        have hqL2 : L2[q]? = some (some (.box 4 (.agg [.int .i64 i, .int .i64 k, .str s, .row p 4 0 nk]))) := by rw [hL2, List.getElem?_append_left (by simp; omega), List.getElem?_set_ne (Ne.symm hqp), hq1]
        have hbL2 : L2[b]? = some (some (.box 4 (.agg [.int .i64 ij, .int .i64 kj, .str sj, kidj]))) := by rw [hL2, List.getElem?_append_left (by simp; omega), List.getElem?_set_ne (by omega), hb1]
        have hyL2 : ∀ y, y < L.length → y ≠ q → y ≠ p → L2[y]? = L[y]? := fun y h1 h2 h3 => by rw [hL2, List.getElem?_append_left (by simp; omega), List.getElem?_set_ne (Ne.symm h3), hx1 y (by omega), hs' y h1]
        by_cases hlast : j1 = nk
        · refine Or.inr ⟨hlast, Nat.le_refl _, ?_⟩
          have hdr : C.drop (j + 1) = [] := List.drop_eq_nil_of_le (by omega)
          cbv
          simp only [← List.length.eq_def, ← List.get?Internal.eq_def]
          refine byes (bleM _ _ (by omega)) ?_
          rw [show L1.get?Internal p = _ from hp1]
          refine chk_iff.2 ⟨by rfl, ?_⟩
          refine ⟨⟨rfl⟩, q2, es, by show q2 = j + 0; omega, by rw [hes, hdr], by omega, by show q2 * 56 ≤ _; omega, by omega, ?_⟩
          refine ⟨by rw [hL2]; rfl, ?_⟩
          rw [← hr2]
          cbv
          simp only [← List.get?Internal.eq_def]
          rw [show L2.get?Internal q = _ from hqL2]
          refine chk_iff.2 ⟨by rfl, ?_⟩
          generalize hL3 : List.set L2 q _ = L3
          replace hL3 : L3 = L2.set q (some (AO.box 4 (.agg [.int .i64 i, .int .i64 k, .str s, .row r2 4 0 q2]))) := hL3.symm
          have hb3 : L3[b]? = some (some (.box 4 (.agg [.int .i64 ij, .int .i64 kj, .str sj, kidj]))) := by rw [hL3, List.getElem?_set_ne (by omega)]; exact hbL2
          cbv
          ((try cbv) <;> (repeat ((with_reducible refine EW.of ?_); cbv)))
          (simp only [← List.get?Internal.eq_def]; rw [show L3.get?Internal b = _ from hb3]; cbv)
          simp only [← List.get?Internal.eq_def]
          rw [show L3.get?Internal b = _ from hb3]
          refine chk_iff.2 ⟨by rw [hkidj]; cases oj <;> rfl, ?_⟩
          generalize hL4 : List.set L3 b _ = L4
          replace hL4 : L4 = L3.set b (some (.box 4 (.agg [.int .i64 ij, .int .i64 kj, .str sj, kidj]))) := hL4.symm
          have hb4 : L4[b]? = some (some (.box 4 (.agg [.int .i64 ij, .int .i64 kj, .str sj, kidj]))) := by rw [hL4, List.getElem?_set_self (List.getElem?_eq_some_iff.1 hb3).1]
          have hres : R (.ret (.tup [.agg [.int .i64 ij, .int .i64 kj, .str sj, kidj], .bool true])) L4 := by
            rw [hR, ← hdc]
            have hl4 : L4.length = L1.length + 1 := by rw [hL4, hL3, List.length_set, List.length_set, hl2]
            refine tk_hit hd hn hm hdj (by rw [hidj]; exact h3) (by omega) (show L.length ≤ r2 by omega) ?_ ?_ fun y h1 h2 h3 => ?_
            · rw [hL4, List.getElem?_set_ne (by omega), hL3, List.getElem?_set_self (List.getElem?_eq_some_iff.1 hqL2).1, hq2, hnk]
            · rw [hL4, List.getElem?_set_ne (by omega), hL3, List.getElem?_set_ne (by omega), hap, hes, hC, List.map_append, List.map_take, List.map_drop]
            · rw [hL4, List.getElem?_set_ne (by omega), hL3, List.getElem?_set_ne (Ne.symm h2), hyL2 y h1 h2 h3]
          cbv
          with_reducible refine EW.of ?_
          cbv
          simp only [← List.get?Internal.eq_def]
          rw [show L4.get?Internal b = _ from hb4]
          refine chk_iff.2 ⟨by rfl, ?_⟩
          cbv
          exact ⟨_, L4, VSV.refl _ _ _, hres⟩
        · refine Or.inl ⟨by omega, Nat.le_refl _, ?_⟩
          obtain ⟨jn, hjn⟩ : ∃ x, x = nk - j1 := ⟨_, rfl⟩
          rw [Nat.zero_add, ← hjn]
          cbv
          simp only [← List.length.eq_def, ← List.get?Internal.eq_def]
          refine byes (bleM _ _ (by omega)) ?_
          rw [show L1.get?Internal p = _ from hp1]
          refine chk_iff.2 ⟨by rfl, ?_⟩
          refine ⟨C.drop (j + 1), by rw [hj1, List.take_of_length_le (by rw [List.length_drop]; omega)], by omega, ?_⟩
          rw [hp1]
          refine chk_iff.2 ⟨by rfl, ?_⟩
          have hdsc : escal (C.drop (j + 1)) = true := by rw [hC, ← List.map_drop]; exact cells_scal _
          refine ⟨⟨hdsc⟩, q2, es, by rw [List.length_drop]; omega, by rw [hes], by omega, by show q2 * 56 ≤ _; omega, by omega, ?_⟩
          refine ⟨by rw [hL2]; rfl, ?_⟩
          rw [← hr2]
          cbv
          simp only [← List.get?Internal.eq_def]
          rw [show L2.get?Internal q = _ from hqL2]
          refine chk_iff.2 ⟨by rfl, ?_⟩
          generalize hL3 : List.set L2 q _ = L3
          replace hL3 : L3 = L2.set q (some (AO.box 4 (.agg [.int .i64 i, .int .i64 k, .str s, .row r2 4 0 q2]))) := hL3.symm
          have hb3 : L3[b]? = some (some (.box 4 (.agg [.int .i64 ij, .int .i64 kj, .str sj, kidj]))) := by rw [hL3, List.getElem?_set_ne (by omega)]; exact hbL2
          cbv
          ((try cbv) <;> (repeat ((with_reducible refine EW.of ?_); cbv)))
          (simp only [← List.get?Internal.eq_def]; rw [show L3.get?Internal b = _ from hb3]; cbv)
          simp only [← List.get?Internal.eq_def]
          rw [show L3.get?Internal b = _ from hb3]
          refine chk_iff.2 ⟨by rw [hkidj]; cases oj <;> rfl, ?_⟩
          generalize hL4 : List.set L3 b _ = L4
          replace hL4 : L4 = L3.set b (some (.box 4 (.agg [.int .i64 ij, .int .i64 kj, .str sj, kidj]))) := hL4.symm
          have hb4 : L4[b]? = some (some (.box 4 (.agg [.int .i64 ij, .int .i64 kj, .str sj, kidj]))) := by rw [hL4, List.getElem?_set_self (List.getElem?_eq_some_iff.1 hb3).1]
          have hres : R (.ret (.tup [.agg [.int .i64 ij, .int .i64 kj, .str sj, kidj], .bool true])) L4 := by
            rw [hR, ← hdc]
            have hl4 : L4.length = L1.length + 1 := by rw [hL4, hL3, List.length_set, List.length_set, hl2]
            refine tk_hit hd hn hm hdj (by rw [hidj]; exact h3) (by omega) (show L.length ≤ r2 by omega) ?_ ?_ fun y h1 h2 h3 => ?_
            · rw [hL4, List.getElem?_set_ne (by omega), hL3, List.getElem?_set_self (List.getElem?_eq_some_iff.1 hqL2).1, hq2, hnk]
            · rw [hL4, List.getElem?_set_ne (by omega), hL3, List.getElem?_set_ne (by omega), hap, hes, hC, List.map_append, List.map_take, List.map_drop]
            · rw [hL4, List.getElem?_set_ne (by omega), hL3, List.getElem?_set_ne (Ne.symm h2), hyL2 y h1 h2 h3]
          cbv
          with_reducible refine EW.of ?_
          cbv
          simp only [← List.get?Internal.eq_def]
          rw [show L4.get?Internal b = _ from hb4]
          refine chk_iff.2 ⟨by rfl, ?_⟩
          cbv
          exact ⟨_, L4, VSV.refl _ _ _, hres⟩
      · have h3 : ij ≠ id := eq_f h3 rfl rfl
        have hnf := (List.nodup_cons.1 hn).2
        have hdf := foot_sep hdj (List.nodup_cons.1 hnf).2
        have hpf : p ∉ dj.foot := fun e => (List.nodup_cons.1 hnf).1 (foot_mem (List.mem_of_getElem? hdj) e)
        have hltd := DT.ok.lt hd
        have hL'ok : oksD L' ks := oksD.same (fun y hy => hs' y (hltd y (List.mem_cons_of_mem _ hy))) hd.2
        have hwj : within m dj.tree := hw.2 _ (by rw [treesD_map]; exact List.mem_map.2 ⟨dj, List.mem_of_getElem? hdj, rfl⟩)
        have hcall := ih dj L' p j C hwj (oks_mem (List.mem_of_getElem? hdj) hL'ok) (List.nodup_cons.2 ⟨hpf, hdf.2⟩) hp' (by rw [hcj, hdc])
        have hqdj : q ∉ p :: dj.foot := fun h => by
          rcases List.mem_cons.1 h with h | h
          · exact hqp h
          · exact hnq (List.mem_cons_of_mem _ (foot_mem (List.mem_of_getElem? hdj) h))
        have hbdj : b ∉ p :: dj.foot := fun h => by
          rcases List.mem_cons.1 h with h | h
          · omega
          · have := hltd b (List.mem_cons_of_mem _ (foot_mem (List.mem_of_getElem? hdj) h)); omega
        have hj1 : A.op .add .i64 (j : Int) 1 = ((j + 1 : Nat) : Int) := inc_eq A (by omega)
        ((try cbv) <;> (repeat ((with_reducible refine EW.of ?_); cbv)))
        (simp only [← List.get?Internal.eq_def]; rw [show L'.get?Internal q = _ from hq']; cbv)
        refine ⟨j, rfl, h2, ?_⟩
        rw [Nat.zero_add]
        cbv
        simp only [← List.length.eq_def]
        refine byes (bleM _ _ (by omega)) ?_
        refine ⟨Ent.of (hP ▸ Try.func52) rfl, TC.mono hcall ?_⟩
        rintro y L2 ⟨hl2, ⟨htn, rfl, hs2⟩ | ⟨e, d2, hts, rfl, hp2, hd2, he2, hnd2, hsub2, hs2⟩⟩
        · unfold z4
          have hb2 := (hs2 b (by omega)).trans hb'
          cbv
          ((try cbv) <;> (repeat ((with_reducible refine EW.of ?_); cbv)))
          simp only [← List.get?Internal.eq_def]
          rw [show L2.get?Internal b = _ from hb2]
          refine chk_iff.2 ⟨by rfl, ?_⟩
          generalize hL3 : List.set L2 b _ = L3
          replace hL3 : L3 = L2.set b (some (AO.box 4 (.agg [.int .i64 0, .int .i64 0, .str ⟨⟨[]⟩⟩, .nils]))) := hL3.symm
          have hb3 : L3[b]? = some (some (.box 4 (.agg [.int .i64 0, .int .i64 0, .str ⟨⟨[]⟩⟩, .nils]))) := by rw [hL3, List.getElem?_set_self (by omega)]
          cbv
          ((try cbv) <;> (repeat ((with_reducible refine EW.of ?_); cbv)))
          refine ⟨⟨nk - (j + 1), ⟨66, [(12, .int .i64 ((j + 1 : Nat) : Int)), (11, .int .i64 (A.nat nk)), (5, .bool false), (4, .ref b 4 0 0), (0, .ref q 4 0 0), (1, .int .i64 id)]⟩, L3, by omega, VS.pick rfl (.cons ?_ (.cons (Sub.refl _) (.cons (Sub.refl _) (.cons (Sub.refl _) (.cons (Sub.refl _) (.cons (Sub.refl _) .nil)))))), ?_⟩⟩
          · show Tw.Sub (.int .i64 (A.op .add .i64 (j : Int) 1)) _
            rw [hj1]
            exact Sub.refl _
          · rw [hJ]
            refine ⟨j + 1, rfl, h2, rfl, by rw [hL3, List.length_set]; omega, hb3, fun y hy => ?_, hm.succ (treesD_get hdj) (by rw [hidj]; exact h3) htn⟩
            rw [hL3, List.getElem?_set_ne (by omega), hs2 y (by omega), hs' y hy]
        · obtain ⟨ei, ek, es, eo, eks⟩ := e
          obtain ⟨kide, hkide⟩ : ∃ kid, kid = kidAV eks.length eo := ⟨_, rfl⟩
          have hec : (DT.node ei ek es eo eks).cell = .agg [.int .i64 ei, .int .i64 ek, .str es, kide] := by rw [hkide]; rfl
          have hb2 := (hs2 b (by omega) hbdj).trans hb'
          have hq2 := (hs2 q (by omega) hqdj).trans hq'
          rw [hec]
          cbv
          ((try cbv) <;> (repeat ((with_reducible refine EW.of ?_); cbv)))
          simp only [← List.get?Internal.eq_def]
          rw [show L2.get?Internal b = _ from hb2]
          refine chk_iff.2 ⟨by rw [hkide]; cases eo <;> rfl, ?_⟩
          generalize hL3 : List.set L2 b _ = L3
          replace hL3 : L3 = L2.set b (some (AO.box 4 (.agg [.int .i64 ei, .int .i64 ek, .str es, kide]))) := hL3.symm
          have hb3 : L3[b]? = some (some (.box 4 (.agg [.int .i64 ei, .int .i64 ek, .str es, kide]))) := by rw [hL3, List.getElem?_set_self (by omega)]
          cbv
          ((try cbv) <;> (repeat ((with_reducible refine EW.of ?_); cbv)))
          (simp only [← List.get?Internal.eq_def]; rw [show L3.get?Internal b = _ from hb3]; cbv)
          simp only [← List.get?Internal.eq_def]
          rw [show L3.get?Internal b = _ from hb3]
          refine chk_iff.2 ⟨by rw [hkide]; cases eo <;> rfl, ?_⟩
          generalize hL4 : List.set L3 b _ = L4
          replace hL4 : L4 = L3.set b (some (AO.box 4 (.agg [.int .i64 ei, .int .i64 ek, .str es, kide]))) := hL4.symm
          have hb4 : L4[b]? = some (some (.box 4 (.agg [.int .i64 ei, .int .i64 ek, .str es, kide]))) := by rw [hL4, List.getElem?_set_self (List.getElem?_eq_some_iff.1 hb3).1]
          have h42 : ∀ y, y ≠ b → L4[y]? = L2[y]? := fun y hy => by rw [hL4, List.getElem?_set_ne (Ne.symm hy), hL3, List.getElem?_set_ne (Ne.symm hy)]
          have hfb : ∀ y ∈ d2.foot ++ (DT.node ei ek es eo eks).foot, y ≠ b := fun y hy e => by
            subst e
            rcases hsub2 y hy with h | h
            · exact hbdj (List.mem_cons_of_mem _ h)
            · omega
          have hres : R (.ret (.tup [.agg [.int .i64 ei, .int .i64 ek, .str es, kide], .bool true])) L4 := by
            rw [hR, ← hec]
            have hl4 : L4.length = L2.length := by rw [hL4, hL3, List.length_set, List.length_set]
            refine tk_deep (L1 := L') hd hn hlq hm hdj (by rw [hidj]; exact h3) hts (by omega) (by omega) ?_ ?_ (DT.ok.same (fun y hy => h42 y (hfb y (List.mem_append_left _ hy))) hd2) (DT.ok.same (fun y hy => h42 y (hfb y (List.mem_append_right _ hy))) he2) hnd2 hsub2 fun y h1 h2 => ?_
            · rw [h42 q (by omega), hq2, ← hnk]
            · rw [h42 p (by omega), hp2, hC]
            · rw [h42 y (by omega), hs2 y (by omega) h2, hs' y h1]
          cbv
          with_reducible refine EW.of ?_
          cbv
          simp only [← List.get?Internal.eq_def]
          rw [show L4.get?Internal b = _ from hb4]
          refine chk_iff.2 ⟨by rfl, ?_⟩
          cbv
          exact ⟨_, L4, VSV.refl _ _ _, hres⟩
    · have h2 : nk ≤ j := lt_nf h2 rfl hNN
      obtain rfl : j = nk := by omega
      ((try cbv) <;> (repeat ((with_reducible refine EW.of ?_); cbv)))
      (simp only [← List.get?Internal.eq_def]; rw [show L'.get?Internal b = _ from hb']; cbv)
      simp only [← List.get?Internal.eq_def]
      rw [show L'.get?Internal b = _ from hb']
      refine chk_iff.2 ⟨by rfl, ?_⟩
      generalize hL9 : List.set L' b _ = L9
      replace hL9 : L9 = L'.set b (some (.box 4 (.agg [.int .i64 0, .int .i64 0, .str ⟨⟨[]⟩⟩, .nils]))) := hL9.symm
      have hb9 : L9[b]? = some (some (.box 4 (.agg [.int .i64 0, .int .i64 0, .str ⟨⟨[]⟩⟩, .nils]))) := by rw [hL9, List.getElem?_set_self (List.getElem?_eq_some_iff.1 hb').1]
      have hres := hres0 L9 (by rw [hL9, List.length_set]; exact hl') (fun y hy => by rw [hL9, List.getElem?_set_ne (by omega)]; exact hs' y hy) hm
      cbv
      with_reducible refine EW.of ?_
      cbv
      simp only [← List.get?Internal.eq_def]
      rw [show L9.get?Internal b = _ from hb9]
      refine chk_iff.2 ⟨by rfl, ?_⟩
      cbv
      exact ⟨_, L9, VSV.refl _ _ _, hres⟩
end Go.Proofs.Ytaieiigfheabfaa

/-! A found node put otherwise. -/
namespace Go.Proofs.Ytaieiigfheabfaa
open Go.Proofs.Ytaieiigfheabfaa.Tw
def hasT (id : Int) (t : Tree) : Bool := decide (id ∈ idsT t)
mutual
/-- The first node of an id is another one. -/
def modT (id : Int) (u : Tree) : Tree → Tree
  | .node i k s ks => if i = id then u else .node i k s (modTs id u ks)
def modTs (id : Int) (u : Tree) : List Tree → List Tree
  | [] => []
  | t :: ts => if hasT id t = true then modT id u t :: ts else t :: modTs id u ts
end
mutual
def modD (id : Int) (u : DT) : DT → DT
  | .node i k s o ks => if i = id then u else .node i k s o (modDs id u ks)
def modDs (id : Int) (u : DT) : List DT → List DT
  | [] => []
  | d :: ds => if hasT id d.tree = true then modD id u d :: ds else d :: modDs id u ds
end
mutual
theorem modD_tree (id : Int) (u : DT) : ∀ d : DT, (modD id u d).tree = modT id u.tree d.tree
  | .node i k s o ks => by
    rw [modD, DT.tree, modT]
    by_cases h : i = id
    · rw [if_pos h, if_pos h]
    · rw [if_neg h, if_neg h, DT.tree, modDs_tree id u ks]
theorem modDs_tree (id : Int) (u : DT) : ∀ ks : List DT, treesD (modDs id u ks) = modTs id u.tree (treesD ks)
  | [] => rfl
  | d :: ds => by
    rw [modDs, treesD, modTs]
    by_cases h : hasT id d.tree = true
    · rw [if_pos h, if_pos h, treesD, modD_tree id u d]
    · rw [if_neg h, if_neg h, treesD, modDs_tree id u ds]
end
mutual
theorem findD_has (id : Int) (me : AV) : ∀ d : DT, (findD id me d).isSome = hasT id d.tree
  | .node i k s o ks => by
    rw [findD, DT.tree, hasT, idsT]
    by_cases h : i = id
    · rw [if_pos h]; simp [h]
    · rw [if_neg h, findDs_has id _ 0 ks]
      have : ¬ id = i := fun e => h e.symm
      simp [this]
theorem findDs_has (id : Int) (p j : Nat) : ∀ ks : List DT, (findDs id p j ks).isSome = decide (id ∈ idsK (treesD ks))
  | [] => by simp [findDs, treesD, idsK]
  | d :: ds => by
    rw [findDs, treesD, idsK]
    have h1 := findD_has id (.ref p 4 j 0) d
    unfold hasT at h1
    cases hf : findD id (.ref p 4 j 0) d with
    | some r =>
      rw [hf] at h1
      simp at h1
      simp [h1]
    | none =>
      rw [hf] at h1
      simp at h1
      simp only [findDs_has id p (j + 1) ds]
      simp [h1]
end
theorem findDs_at {id : Int} {p : Nat} : ∀ {ks : List DT} {n : Nat} {r : AV × DT}, findDs id p n ks = some r → ∃ (j : Nat) (dj : DT), ks[j]? = some dj ∧ (∀ (i : Nat) (d : DT), i < j → ks[i]? = some d → hasT id d.tree = false) ∧ findD id (.ref p 4 (n + j) 0) dj = some r
  | [], n, r, h => by rw [findDs] at h; cases h
  | d :: ds, n, r, h => by
    rw [findDs] at h
    have h1 := findD_has id (.ref p 4 n 0) d
    cases hf : findD id (.ref p 4 n 0) d with
    | some x =>
      rw [hf] at h
      cases h
      exact ⟨0, d, rfl, fun i d hi => by omega, hf⟩
    | none =>
      rw [hf] at h
      rw [hf] at h1
      obtain ⟨j, dj, a, b, c⟩ := findDs_at (ks := ds) h
      refine ⟨j + 1, dj, a, fun i e hi he => ?_, by rw [show n + (j + 1) = n + 1 + j by omega]; exact c⟩
      cases i with
      | zero =>
        obtain rfl : d = e := by simpa using he
        exact h1.symm
      | succ i => exact b i e (by omega) (by simpa using he)
theorem modDs_set {id : Int} {u : DT} : ∀ {ks : List DT} {j : Nat} {dj : DT}, ks[j]? = some dj → (∀ (i : Nat) (d : DT), i < j → ks[i]? = some d → hasT id d.tree = false) → hasT id dj.tree = true → modDs id u ks = ks.set j (modD id u dj)
  | [], j, dj, h, _, _ => by simp at h
  | d :: ds, 0, dj, h, _, hh => by
    obtain rfl : d = dj := by simpa using h
    rw [modDs, if_pos hh]; rfl
  | d :: ds, j + 1, dj, h, hm, hh => by
    have h0 := hm 0 d (by omega) rfl
    rw [modDs, if_neg (by rw [h0]; simp), modDs_set (ks := ds) (j := j) (by simpa using h) (fun i x hi hx => hm (i + 1) x (by omega) (by simpa using hx)) hh]
    rfl
theorem foot_put {ks : List DT} {j : Nat} {d d2 : DT} (h : ks[j]? = some d) (hn : (footD ks).Nodup) (h2 : d2.foot.Nodup) (hs : ∀ x ∈ d2.foot, x ∈ d.foot ∨ x ∉ footD ks) : (footD (ks.set j d2)).Nodup ∧ ∀ x ∈ footD (ks.set j d2), x ∈ footD ks ∨ x ∈ d2.foot := by
  obtain ⟨e1, _⟩ := foot_split h
  rw [foot_set (d' := d2) h]
  have m1 : ∀ y ∈ footD (ks.take j), y ∈ footD ks := fun y hy => by rw [e1]; exact List.mem_append_left _ hy
  have m3 : ∀ y ∈ footD (ks.drop (j + 1)), y ∈ footD ks := fun y hy => by rw [e1]; exact List.mem_append_right _ (List.mem_append_right _ hy)
  rw [e1] at hn
  have a1 := List.nodup_append.1 hn
  have a2 := List.nodup_append.1 a1.2.1
  refine ⟨List.nodup_append.2 ⟨a1.1, List.nodup_append.2 ⟨h2, a2.2.1, fun a ha b hb e => ?_⟩, fun a ha b hb e => ?_⟩, fun x hx => ?_⟩
  · subst e
    rcases hs a ha with h | h
    · exact a2.2.2 a h a hb rfl
    · exact h (m3 a hb)
  · subst e
    rcases List.mem_append.1 hb with hb | hb
    · rcases hs a hb with h | h
      · exact a1.2.2 a ha a (List.mem_append_left _ h) rfl
      · exact h (m1 a ha)
    · exact a1.2.2 a ha a (List.mem_append_right _ hb) rfl
  · rcases List.mem_append.1 hx with hx | hx
    · exact .inl (m1 x hx)
    · rcases List.mem_append.1 hx with hx | hx
      · exact .inr hx
      · exact .inl (m3 x hx)
/-- What is known of a node found below the root. -/
def Deep (id : Int) (L : Store) (d : DT) (r : AV) (e : DT) : Prop := ∃ (p j : Nat) (els : List AV), r = .ref p 4 j 0 ∧ p ∈ d.foot ∧ L[p]? = some (some (.arr 4 els)) ∧ els[j]? = some e.cell ∧ e.ok L ∧ (p :: e.foot).Nodup ∧ (∀ x ∈ e.foot, x ∈ d.foot) ∧
  ∀ (L' : Store) (u : DT), u.ok L' → u.foot.Nodup → (∀ x ∈ u.foot, x ∈ e.foot ∨ x ∉ d.foot) → L'[p]? = some (some (.arr 4 (els.set j u.cell))) → (∀ x ∈ d.foot, x ≠ p → x ∉ e.foot → L'[x]? = L[x]?) → (modD id u d).ok L' ∧ (modD id u d).cell = d.cell ∧ (modD id u d).foot.Nodup ∧ ∀ x ∈ (modD id u d).foot, x ∈ d.foot ∨ x ∈ u.foot
theorem find_mod (id : Int) : ∀ (m : Nat) (d : DT) (me : AV) (L : Store), within m d.tree → d.ok L → d.foot.Nodup → ∀ r e, findD id me d = some (r, e) → (r = me ∧ e = d ∧ d.tree.id = id) ∨ (d.tree.id ≠ id ∧ Deep id L d r e) := by
  intro m
  induction m with
  | zero => exact fun _ _ _ h => h.elim
  | succ m ih =>
  intro d me L hw hd hn r e hf
  obtain ⟨i, k, s, o, ks⟩ := d
  rw [findD] at hf
  rw [DT.tree_id]
  by_cases hi : i = id
  · rw [if_pos hi] at hf
    cases hf
    exact .inl ⟨rfl, rfl, hi⟩
  rw [if_neg hi] at hf
  obtain ⟨j, dj, hdj, hmiss, hfj⟩ := findDs_at hf
  rw [Nat.zero_add] at hfj
  have hhas : hasT id dj.tree = true := by
    have := findD_has id (.ref (o.getD 0) 4 j 0) dj
    rw [hfj] at this
    exact this.symm
  have hset := fun u => modDs_set (u := u) hdj hmiss hhas
  cases o with
  | none =>
    have : ks = [] := hd.1
    subst this
    simp at hdj
  | some p =>
  have hpn := List.nodup_cons.1 (show (p :: footD ks).Nodup from hn)
  have hlt := DT.ok.lt hd
  have hdf := foot_sep hdj hpn.2
  have hdo := oks_mem (List.mem_of_getElem? hdj) hd.2
  have hsub : ∀ x ∈ dj.foot, x ∈ footD ks := fun x hx => foot_mem (List.mem_of_getElem? hdj) hx
  have hltK : ∀ x ∈ footD ks, x < L.length := fun x hx => hlt x (List.mem_cons_of_mem _ hx)
  have hmod : ∀ u, modD id u (.node i k s (some p) ks) = .node i k s (some p) (ks.set j (modD id u dj)) := fun u => by rw [modD, if_neg hi, hset]
  have hp : L[p]? = some (some (.arr 4 (ks.map DT.cell))) := hd.1
  have hcj : (ks.map DT.cell)[j]? = some dj.cell := by rw [List.getElem?_map, hdj]; rfl
  refine .inr ⟨hi, ?_⟩
  rcases ih dj _ L (hw.2 _ (by rw [treesD_map]; exact List.mem_map.2 ⟨dj, List.mem_of_getElem? hdj, rfl⟩)) hdo hdf.2 r e hfj with ⟨rfl, rfl, hid⟩ | ⟨hid, p2, j2, els, rfl, hp2, hL2, he2, heo, hen, hes, hall⟩
  · refine ⟨p, j, _, rfl, List.mem_cons_self .., hp, hcj, hdo, List.nodup_cons.2 ⟨fun h => hpn.1 (hsub p h), hdf.2⟩, fun x hx => List.mem_cons_of_mem _ (hsub x hx), fun L' u hu hun hus hpu hsame => ?_⟩
    have hmu : modD id u e = u := by
      obtain ⟨i2, k2, s2, o2, ks2⟩ := e
      rw [DT.tree_id] at hid
      rw [modD, if_pos hid]
    rw [hmod, hmu]
    have hfp := foot_put hdj hpn.2 hun fun x hx => (hus x hx).imp (fun h => h) fun h h2 => h (List.mem_cons_of_mem _ h2)
    refine ⟨⟨?_, oksD.set hdj hpn.2 hd.2 hu fun x hx hxn => hsame x (List.mem_cons_of_mem _ hx) (fun e => hpn.1 (e ▸ hx)) hxn⟩, ?_, List.nodup_cons.2 ⟨fun h => ?_, hfp.1⟩, fun x hx => ?_⟩
    · show L'[p]? = _
      rw [hpu, List.map_set]
    · rw [DT.cell, DT.cell, List.length_set]
    · rcases hfp.2 p h with h | h
      · exact hpn.1 h
      · rcases hus p h with h | h
        · exact hpn.1 (hsub p h)
        · exact h (List.mem_cons_self ..)
    · rcases List.mem_cons.1 (show x ∈ p :: footD (ks.set j u) from hx) with rfl | hx
      · exact .inl (List.mem_cons_self ..)
      · exact (hfp.2 x hx).imp (fun h => List.mem_cons_of_mem _ h) fun h => h
  · refine ⟨p2, j2, els, rfl, List.mem_cons_of_mem _ (hsub p2 hp2), hL2, he2, heo, hen, fun x hx => List.mem_cons_of_mem _ (hsub x (hes x hx)), fun L' u hu hun hus hpu hsame => ?_⟩
    obtain ⟨c1, c2, c3, c4⟩ := hall L' u hu hun (fun x hx => (hus x hx).imp (fun h => h) fun h h2 => h (List.mem_cons_of_mem _ (hsub x h2))) hpu fun x hx h1 h2 => hsame x (List.mem_cons_of_mem _ (hsub x hx)) h1 h2
    have hpp : p ≠ p2 := fun e => hpn.1 (e ▸ hsub p2 hp2)
    have hpe : p ∉ e.foot := fun h => hpn.1 (hsub p (hes p h))
    rw [hmod]
    have hc5 : ∀ x ∈ (modD id u dj).foot, x ∈ dj.foot ∨ x ∉ (DT.node i k s (some p) ks).foot := fun x hx => by
      rcases c4 x hx with h | h
      · exact .inl h
      · exact (hus x h).imp (hes x) fun h => h
    have hfp := foot_put hdj hpn.2 c3 fun x hx => (hc5 x hx).imp (fun h => h) fun h h2 => h (List.mem_cons_of_mem _ h2)
    refine ⟨⟨?_, oksD.set hdj hpn.2 hd.2 c1 fun x hx hxn => hsame x (List.mem_cons_of_mem _ hx) (fun e => hxn (e ▸ hp2)) fun h => hxn (hes x h)⟩, ?_, List.nodup_cons.2 ⟨fun h => ?_, hfp.1⟩, fun x hx => ?_⟩
    · show L'[p]? = _
      rw [hsame p (List.mem_cons_self ..) hpp hpe, hp, List.map_set, c2]
      congr 3
      exact (List.ext_getElem? fun y => by
        by_cases hy : j = y
        · subst hy; rw [List.getElem?_set_self (List.getElem?_eq_some_iff.1 hcj).1, hcj]
        · rw [List.getElem?_set_ne hy]).symm
    · rw [DT.cell, DT.cell, List.length_set]
    · rcases hfp.2 p h with h | h
      · exact hpn.1 h
      · rcases hc5 p h with h | h
        · exact hpn.1 (hsub p h)
        · exact h (List.mem_cons_self ..)
    · rcases List.mem_cons.1 (show x ∈ p :: footD (ks.set j (modD id u dj)) from hx) with rfl | hx
      · exact .inl (List.mem_cons_self ..)
      · rcases hfp.2 x hx with h | h
        · exact .inl (List.mem_cons_of_mem _ h)
        · exact (c4 x h).imp (fun h => List.mem_cons_of_mem _ (hsub x h)) fun h => h
end Go.Proofs.Ytaieiigfheabfaa

/-! Steps; trees and steps compared. -/
namespace Go.Proofs.Ytaieiigfheabfaa
open Go.Proofs.Ytaieiigfheabfaa.Tw
structure Stp where
  op : Int
  id : Int
  par : Int
  pl : Int
  text : ByteArray
  sub : Tree
def Stp.av : Stp → AV
  | ⟨op, id, par, pl, text, .node i k s ks⟩ => .agg [.int .i8 op, .int .i64 id, .int .i64 par, .int .i64 pl, .str text, .int .i64 i, .int .i64 k, .str s, .sl 4 (avs ks)]
theorem Stp.av_pur : ∀ x : Stp, x.av.pur = true
  | ⟨op, id, par, pl, text, .node i k s ks⟩ => by simp only [Stp.av, AV.pur, Tw.purL, Bool.true_and, Bool.and_true]; exact avs_pur ks
/-- Steps, not reckoned out. -/
structure EmS where
  l : Emb Stp
  ok : l.v = Stp.av
def emS0 : EmS := ⟨⟨Stp.av, _, fun _ => rfl, Stp.av_pur⟩, rfl⟩
theorem EmS.v (F : EmS) (E : Em) (op id par pl : Int) (text : ByteArray) (i k : Int) (s : ByteArray) (ks : List Tree) : F.l.v ⟨op, id, par, pl, text, .node i k s ks⟩ = .agg [.int .i8 op, .int .i64 id, .int .i64 par, .int .i64 pl, .str text, .int .i64 i, .int .i64 k, .str s, .sl 4 (E.tree.l ks)] := by
  rw [F.ok, Stp.av, E.trees]
theorem EmS.get (F : EmS) (E : Em) {l : List Stp} {j : Nat} {op id par pl : Int} {text : ByteArray} {i k : Int} {s : ByteArray} {ks : List Tree} (h : l[j]? = some ⟨op, id, par, pl, text, .node i k s ks⟩) : (F.l.l l)[j]? = some (.agg [.int .i8 op, .int .i64 id, .int .i64 par, .int .i64 pl, .str text, .int .i64 i, .int .i64 k, .str s, .sl 4 (E.tree.l ks)]) := by rw [F.l.get h, F.v E]
mutual
def sameT : Tree → Tree → Bool
  | .node i k s ks, .node i' k' s' ks' => decide (i = i') && (decide (k = k') && (strEq s s' && sameK ks ks'))
def sameK : List Tree → List Tree → Bool
  | [], [] => true
  | t :: ts, u :: us => sameT t u && sameK ts us
  | _, _ => false
end
theorem sameK_len : ∀ {ts us : List Tree}, ts.length ≠ us.length → sameK ts us = false
  | [], [], h => absurd rfl h
  | t :: ts, u :: us, h => by
    simp only [sameK]
    rw [sameK_len (fun e => h (by simp [e])), Bool.and_false]
  | [], u :: us, _ => rfl
  | t :: ts, [], _ => rfl
theorem sameK_drop {ts us : List Tree} {j : Nat} {t u : Tree} (ht : ts[j]? = some t) (hu : us[j]? = some u) : sameK (ts.drop j) (us.drop j) = (sameT t u && sameK (ts.drop (j + 1)) (us.drop (j + 1))) := by
  have h1 := List.drop_eq_getElem?_toList_append (l := ts) (i := j)
  have h2 := List.drop_eq_getElem?_toList_append (l := us) (i := j)
  rw [ht] at h1
  rw [hu] at h2
  rw [h1, h2]
  rfl
mutual
theorem sameT_refl : ∀ t : Tree, sameT t t = true
  | .node i k s ks => by simp [sameT, sameK_refl ks, strEq]
theorem sameK_refl : ∀ ts : List Tree, sameK ts ts = true
  | [] => rfl
  | t :: ts => by simp [sameK, sameT_refl t, sameK_refl ts]
end
set_option maxHeartbeats 1000000 in
theorem sameN (A : Ar) (E : Em) {P : Program} (hP : P = Try.prog) : ∀ (n : Nat) (t u : Tree), SizeOf.sizeOf t < n → t.ok → TPure P 18 [E.tree.v t, E.tree.v u] (.bool (sameT t u)) := by
  intro n
  induction n with
  | zero => exact fun _ _ h => absurd h (Nat.not_lt_zero _)
  | succ n ih =>
  intro t u hsz hw
  refine TPure.ofE A T0 (T0_ok hP) (hP ▸ Try.func18) rfl _ rfl (by simp) ?_
  obtain ⟨i, k, s, ks⟩ := t
  obtain ⟨i', k', s', us⟩ := u
  have hll := E.tree.len ks
  have hlu := E.tree.len us
  have hwl := hw.len
  simp only [E.node, sameT]
  obtain ⟨r, hr⟩ : ∃ r, r = (decide (i = i') && (decide (k = k') && (strEq s s' && sameK ks us))) := ⟨_, rfl⟩
  rw [← hr]
  cbv
  ((try cbv) <;> (repeat ((with_reducible refine EW.of ?_); cbv)))
  refine bsplit (fun h => ?_) (fun h => ?_)
  · have h : i ≠ i' := ne_t h rfl rfl
    rw [decide_eq_false h] at hr
    replace hr : r = false := by rw [hr]; simp
    subst hr
    ((try cbv) <;> (repeat ((with_reducible refine EW.of ?_); cbv)))
  have h : i = i' := ne_f h rfl rfl
  rw [decide_eq_true h] at hr
  ((try cbv) <;> (repeat ((with_reducible refine EW.of ?_); cbv)))
  refine bsplit (fun h => ?_) (fun h => ?_)
  · have h : k ≠ k' := ne_t h rfl rfl
    rw [decide_eq_false h] at hr
    replace hr : r = false := by rw [hr]; simp
    subst hr
    ((try cbv) <;> (repeat ((with_reducible refine EW.of ?_); cbv)))
  have h : k = k' := ne_f h rfl rfl
  rw [decide_eq_true h] at hr
  ((try cbv) <;> (repeat ((with_reducible refine EW.of ?_); cbv)))
  refine bsplit (fun h => ?_) (fun h => ?_)
  · have h : strEq s s' = false := sne_t h
    rw [h] at hr
    replace hr : r = false := by rw [hr]; simp
    subst hr
    ((try cbv) <;> (repeat ((with_reducible refine EW.of ?_); cbv)))
  have h : strEq s s' = true := sne_f h
  rw [h] at hr
  ((try cbv) <;> (repeat ((with_reducible refine EW.of ?_); cbv)))
  refine bsplit (fun h => ?_) (fun h => ?_)
  · have h : (E.tree.l ks).length ≠ (E.tree.l us).length := lenne_t h
    rw [sameK_len (by omega)] at hr
    replace hr : r = false := by rw [hr]; simp
    subst hr
    ((try cbv) <;> (repeat ((with_reducible refine EW.of ?_); cbv)))
  have h : (E.tree.l ks).length = (E.tree.l us).length := lenne_f h
  replace hr : r = sameK ks us := by rw [hr]; rfl
  ((try cbv) <;> (repeat ((with_reducible refine EW.of ?_); cbv)))
  obtain ⟨z, hz⟩ : ∃ z : Store, z = [some (.box 4 (.agg [.int .i64 i, .int .i64 k, .str s, .sl 4 (E.tree.l ks)])), some (.box 4 (.agg [.int .i64 i', .int .i64 k', .str s', .sl 4 (E.tree.l us)]))] := ⟨_, rfl⟩
  obtain ⟨S, hS⟩ : ∃ S : LI Nat, S = ⟨fun j => [(5, .int .i64 j), (2, .ref 0 4 0 0), (3, .ref 1 4 0 0)], fun _ => z, fun j => j ≤ ks.length ∧ r = sameK (ks.drop j) (us.drop j), fun j => ks.length - j⟩ := ⟨_, rfl⟩
  refine TW.loopM A (T0_ok hP) S 53 rfl 0 ?_ ?_ ?_
  · rw [hS]; exact ⟨Nat.zero_le _, hr⟩
  · rw [hS, hz]; cbv; (repeat (first | exact trivial | refine And.intro (Emb.Pur _ _) ?_ | refine And.intro rfl ?_ | refine And.intro (Pur.mk rfl) ?_ | refine And.intro (Pur.mk (by assumption)) ?_))
  intro j hj l1 L1 e1 e2; rw [hS] at hj e1 e2; dsimp only at hj e1 e2; obtain ⟨hj, hinv⟩ := hj; subst e1 e2
  rw [hz]
  cbv
  ((try cbv) <;> (repeat ((with_reducible refine EW.of ?_); cbv)))
  refine bsplit (fun h2 => ?_) (fun h2 => ?_)
  · have h2 : j < (E.tree.l ks).length := lt_nt h2 rfl (A.ok_len _)
    obtain ⟨t', ht'⟩ : ∃ t', ks[j]? = some t' := ⟨_, List.getElem?_eq_getElem (by omega)⟩
    obtain ⟨u', hu'⟩ : ∃ u', us[j]? = some u' := ⟨_, List.getElem?_eq_getElem (by omega)⟩
    rw [sameK_drop ht' hu'] at hinv
    have hrec := ih t' u' (by have := Tree.kid_lt (i := i) (k := k) (s := s) (List.mem_of_getElem? ht'); omega) (hw.kid (List.mem_of_getElem? ht'))
    generalize sameT t' u' = b at hrec hinv
    obtain ⟨i1, k1, s1, ks1⟩ := t'
    obtain ⟨i2, k2, s2, ks2⟩ := u'
    simp only [E.node] at hrec
    ((try cbv) <;> (repeat ((with_reducible refine EW.of ?_); cbv)))
    (refine TW.draw (A := A) (T0_ok hP) (hP ▸ follows_mixed) (by kernel_rfl) rfl ?_; cbv)
    refine ⟨j, _, rfl, E.getn ht', ?_⟩
    cbv
    refine ⟨j, _, rfl, E.getn hu', ?_⟩
    cbv
    (refine ⟨Ent.of (hP ▸ Try.func18) rfl, ?_⟩; refine ⟨_, TC.pureX hrec (by cbv; (repeat (first | exact trivial | refine And.intro (Emb.Pur _ _) ?_ | refine And.intro rfl ?_ | refine And.intro (Pur.mk rfl) ?_ | refine And.intro (Pur.mk (by assumption)) ?_))), ?_⟩; cbv)
    cases b with
    | true =>
      replace hinv : r = sameK (ks.drop (j + 1)) (us.drop (j + 1)) := by rw [hinv]; rfl
      ((try cbv) <;> (repeat ((with_reducible refine EW.of ?_); cbv)))
      refine LM.of (j + 1) rfl ?_ ?_ ?_
      · rw [hS]; exact ⟨by show j + 1 ≤ _; omega, hinv⟩
      · rw [hS]; show ks.length - (j + 1) < ks.length - j; omega
      · rw [hS, hz]; (cbv; (repeat (first | exact trivial | refine And.intro (Emb.Pur _ _) ?_ | refine And.intro rfl ?_ | refine And.intro (Pur.mk rfl) ?_ | refine And.intro (Pur.mk (by assumption)) ?_)); refine And.intro (inc_eq A (by omega)) ?_; (repeat (first | exact trivial | refine And.intro (Emb.Pur _ _) ?_ | refine And.intro rfl ?_ | refine And.intro (Pur.mk rfl) ?_ | refine And.intro (Pur.mk (by assumption)) ?_)))
    | false =>
      replace hinv : r = false := by rw [hinv]; rfl
      subst hinv
      ((try cbv) <;> (repeat ((with_reducible refine EW.of ?_); cbv)))
  · have h2 : (E.tree.l ks).length ≤ j := lt_nf h2 rfl (A.ok_len _)
    rw [List.drop_eq_nil_of_le (by omega), List.drop_eq_nil_of_le (by omega)] at hinv
    replace hinv : r = true := hinv
    subst hinv
    ((try cbv) <;> (repeat ((with_reducible refine EW.of ?_); cbv)))
theorem Same28 (A : Ar) (E : Em) {P : Program} (hP : P = Try.prog) (t u : Tree) (hw : t.ok) : TPure P 18 [E.tree.v t, E.tree.v u] (.bool (sameT t u)) := sameN A E hP _ t u (Nat.lt_succ_self _) hw
/-- Are two steps the same? -/
def sameS (x y : Stp) : Bool := decide (x.op = y.op) && (decide (x.id = y.id) && (decide (x.par = y.par) && (decide (x.pl = y.pl) && (strEq x.text y.text && sameT x.sub y.sub))))
def sameL : List Stp → List Stp → Bool
  | [], [] => true
  | t :: ts, u :: us => sameS t u && sameL ts us
  | _, _ => false
theorem sameL_len : ∀ {ts us : List Stp}, ts.length ≠ us.length → sameL ts us = false
  | [], [], h => absurd rfl h
  | t :: ts, u :: us, h => by
    simp only [sameL]
    rw [sameL_len (fun e => h (by simp [e])), Bool.and_false]
  | [], u :: us, _ => rfl
  | t :: ts, [], _ => rfl
theorem sameL_drop {ts us : List Stp} {j : Nat} {t u : Stp} (ht : ts[j]? = some t) (hu : us[j]? = some u) : sameL (ts.drop j) (us.drop j) = (sameS t u && sameL (ts.drop (j + 1)) (us.drop (j + 1))) := by
  have h1 := List.drop_eq_getElem?_toList_append (l := ts) (i := j)
  have h2 := List.drop_eq_getElem?_toList_append (l := us) (i := j)
  rw [ht] at h1
  rw [hu] at h2
  rw [h1, h2]
  rfl
theorem sameS_refl (x : Stp) : sameS x x = true := by simp [sameS, sameT_refl, strEq]
theorem sameL_refl : ∀ ts : List Stp, sameL ts ts = true
  | [] => rfl
  | t :: ts => by simp [sameL, sameS_refl t, sameL_refl ts]
set_option maxHeartbeats 1000000 in
theorem SameStep58 (A : Ar) (E : Em) (F : EmS) {P : Program} (hP : P = Try.prog) (x y : Stp) (hw : x.sub.ok) : TPure P 28 [F.l.v x, F.l.v y] (.bool (sameS x y)) := by
  obtain ⟨op, id, par, pl, tx, ⟨i, k, s, ks⟩⟩ := x
  obtain ⟨op', id', par', pl', tx', ⟨i', k', s', ks'⟩⟩ := y
  have h28 := Same28 A E hP (.node i k s ks) (.node i' k' s' ks') hw
  rw [F.v E, F.v E]
  unfold sameS
  dsimp only
  obtain ⟨st, hst⟩ : ∃ b, b = sameT (.node i k s ks) (.node i' k' s' ks') := ⟨_, rfl⟩
  rw [← hst] at h28 ⊢
  obtain ⟨r, hr⟩ : ∃ r, r = (decide (op = op') && (decide (id = id') && (decide (par = par') && (decide (pl = pl') && (strEq tx tx' && st))))) := ⟨_, rfl⟩
  rw [← hr]
  rw [E.node, E.node] at h28
  refine TPure.ofE A T0 (T0_ok hP) (hP ▸ Try.func28) rfl _ rfl (by simp) ?_
  cbv
  ((try cbv) <;> (repeat ((with_reducible refine EW.of ?_); cbv)))
  refine bsplit (fun h => ?_) (fun h => ?_)
  rotate_left
  · have h : ¬ (op = op') := eq_f h rfl rfl
    rw [decide_eq_false h] at hr
    replace hr : r = false := by rw [hr]; simp
    subst hr
    cbv
    ((try cbv) <;> (repeat ((with_reducible refine EW.of ?_); cbv)))
  have h : op = op' := eq_t h rfl rfl
  rw [decide_eq_true h] at hr
  cbv
  refine bsplit (fun h => ?_) (fun h => ?_)
  rotate_left
  · have h : ¬ (id = id') := eq_f h rfl rfl
    rw [decide_eq_false h] at hr
    replace hr : r = false := by rw [hr]; simp
    subst hr
    cbv
    ((try cbv) <;> (repeat ((with_reducible refine EW.of ?_); cbv)))
  have h : id = id' := eq_t h rfl rfl
  rw [decide_eq_true h] at hr
  cbv
  refine bsplit (fun h => ?_) (fun h => ?_)
  rotate_left
  · have h : ¬ (par = par') := eq_f h rfl rfl
    rw [decide_eq_false h] at hr
    replace hr : r = false := by rw [hr]; simp
    subst hr
    cbv
    ((try cbv) <;> (repeat ((with_reducible refine EW.of ?_); cbv)))
  have h : par = par' := eq_t h rfl rfl
  rw [decide_eq_true h] at hr
  cbv
  refine bsplit (fun h => ?_) (fun h => ?_)
  rotate_left
  · have h : ¬ (pl = pl') := eq_f h rfl rfl
    rw [decide_eq_false h] at hr
    replace hr : r = false := by rw [hr]; simp
    subst hr
    cbv
    ((try cbv) <;> (repeat ((with_reducible refine EW.of ?_); cbv)))
  have h : pl = pl' := eq_t h rfl rfl
  rw [decide_eq_true h] at hr
  cbv
  refine bsplit (fun h => ?_) (fun h => ?_)
  rotate_left
  · have h : strEq tx tx' = false := seq_f h
    rw [h] at hr
    replace hr : r = false := by rw [hr]; simp
    subst hr
    cbv
    ((try cbv) <;> (repeat ((with_reducible refine EW.of ?_); cbv)))
  have h : strEq tx tx' = true := seq_t h
  rw [h] at hr
  replace hr : r = st := by rw [hr]; rfl
  subst hr
  cbv
  (refine ⟨Ent.of (hP ▸ Try.func18) rfl, ?_⟩; refine TC.pureE h28 ?_; cbv; (repeat (first | exact trivial | refine And.intro (Emb.Pur _ _) ?_ | refine And.intro rfl ?_ | refine And.intro (Pur.mk rfl) ?_ | refine And.intro (Pur.mk (by assumption)) ?_)); ((try cbv) <;> (repeat ((with_reducible refine EW.of ?_); cbv))))
set_option maxHeartbeats 1000000 in
theorem SameSteps31 (A : Ar) (E : Em) (F : EmS) {P : Program} (hP : P = Try.prog) (ks us : List Stp) (hw : ∀ x ∈ ks, x.sub.ok) (hkl : ks.length ≤ 9223372036854775807) : TPure P 12 [.sl 9 (F.l.l ks), .sl 9 (F.l.l us)] (.bool (sameL ks us)) := by
  have hll := F.l.len ks
  have hlu := F.l.len us
  obtain ⟨r, hr⟩ : ∃ r, r = sameL ks us := ⟨_, rfl⟩
  rw [← hr]
  refine TPure.ofE A T0 (T0_ok hP) (hP ▸ Try.func12) rfl _ rfl (by simp) ?_
  cbv
  ((try cbv) <;> (repeat ((with_reducible refine EW.of ?_); cbv)))
  refine bsplit (fun h => ?_) (fun h => ?_)
  · have h : (F.l.l ks).length ≠ (F.l.l us).length := lenne_t h
    rw [sameL_len (by omega)] at hr
    subst hr
    cbv
    ((try cbv) <;> (repeat ((with_reducible refine EW.of ?_); cbv)))
  have h : (F.l.l ks).length = (F.l.l us).length := lenne_f h
  cbv
  ((try cbv) <;> (repeat ((with_reducible refine EW.of ?_); cbv)))
  obtain ⟨S, hS⟩ : ∃ S : LI Nat, S = ⟨fun j => [(5, .int .i64 j), (4, .bool false), (0, .sl 9 (F.l.l ks)), (1, .sl 9 (F.l.l us))], fun _ => [], fun j => j ≤ ks.length ∧ r = sameL (ks.drop j) (us.drop j), fun j => ks.length - j⟩ := ⟨_, rfl⟩
  refine TW.loopM A (T0_ok hP) S _ rfl 0 ?_ ?_ ?_
  · rw [hS]; exact ⟨Nat.zero_le _, hr⟩
  · rw [hS]; cbv; (repeat (first | exact trivial | refine And.intro (Emb.Pur _ _) ?_ | refine And.intro rfl ?_ | refine And.intro (Pur.mk rfl) ?_ | refine And.intro (Pur.mk (by assumption)) ?_))
  intro j hj l1 L1 e1 e2; rw [hS] at hj e1 e2; dsimp only at hj e1 e2; obtain ⟨hj, hinv⟩ := hj; subst e1 e2
  cbv
  ((try cbv) <;> (repeat ((with_reducible refine EW.of ?_); cbv)))
  refine bsplit (fun h2 => ?_) (fun h2 => ?_)
  · have h2 : j < (F.l.l ks).length := lt_nt h2 rfl (A.ok_len _)
    obtain ⟨t', ht'⟩ : ∃ t', ks[j]? = some t' := ⟨_, List.getElem?_eq_getElem (by omega)⟩
    obtain ⟨u', hu'⟩ : ∃ u', us[j]? = some u' := ⟨_, List.getElem?_eq_getElem (by omega)⟩
    rw [sameL_drop ht' hu'] at hinv
    have hrec := SameStep58 A E F hP t' u' (hw t' (List.mem_of_getElem? ht'))
    generalize sameS t' u' = b at hrec hinv
    obtain ⟨op, id, par, pl, tx, ⟨i, k, s, ks1⟩⟩ := t'
    obtain ⟨op', id', par', pl', tx', ⟨i', k', s', ks2⟩⟩ := u'
    rw [F.v E, F.v E] at hrec
    ((try cbv) <;> (repeat ((with_reducible refine EW.of ?_); cbv)))
    (refine TW.draw (A := A) (T0_ok hP) (hP ▸ follows_mixed) (by kernel_rfl) rfl ?_; cbv)
    refine ⟨j, _, rfl, F.get E ht', ?_⟩
    cbv
    refine ⟨j, _, rfl, F.get E hu', ?_⟩
    cbv
    (refine ⟨Ent.of (hP ▸ Try.func28) rfl, ?_⟩; refine ⟨_, TC.pureX hrec (by cbv; (repeat (first | exact trivial | refine And.intro (Emb.Pur _ _) ?_ | refine And.intro rfl ?_ | refine And.intro (Pur.mk rfl) ?_ | refine And.intro (Pur.mk (by assumption)) ?_))), ?_⟩; cbv)
    cases b with
    | true =>
      replace hinv : r = sameL (ks.drop (j + 1)) (us.drop (j + 1)) := by rw [hinv]; rfl
      ((try cbv) <;> (repeat ((with_reducible refine EW.of ?_); cbv)))
      refine LM.of (j + 1) rfl ?_ ?_ ?_
      · rw [hS]; exact ⟨by show j + 1 ≤ _; omega, hinv⟩
      · rw [hS]; show ks.length - (j + 1) < ks.length - j; omega
      · rw [hS]; (cbv; (repeat (first | exact trivial | refine And.intro (Emb.Pur _ _) ?_ | refine And.intro rfl ?_ | refine And.intro (Pur.mk rfl) ?_ | refine And.intro (Pur.mk (by assumption)) ?_)); refine And.intro (inc_eq A (by omega)) ?_; (repeat (first | exact trivial | refine And.intro (Emb.Pur _ _) ?_ | refine And.intro rfl ?_ | refine And.intro (Pur.mk rfl) ?_ | refine And.intro (Pur.mk (by assumption)) ?_)))
    | false =>
      replace hinv : r = false := by rw [hinv]; rfl
      subst hinv
      ((try cbv) <;> (repeat ((with_reducible refine EW.of ?_); cbv)))
  · have h2 : (F.l.l ks).length ≤ j := lt_nf h2 rfl (A.ok_len _)
    rw [List.drop_eq_nil_of_le (by omega), List.drop_eq_nil_of_le (by omega)] at hinv
    replace hinv : r = true := hinv
    subst hinv
    ((try cbv) <;> (repeat ((with_reducible refine EW.of ?_); cbv)))
end Go.Proofs.Ytaieiigfheabfaa

/-! What the steps do, plain; the step StText. -/
namespace Go.Proofs.Ytaieiigfheabfaa
open Go.Proofs.Ytaieiigfheabfaa.Tw
mutual
def findTr (id : Int) : Tree → Option Tree
  | .node i k s ks => if i = id then some (.node i k s ks) else findTrs id ks
def findTrs (id : Int) : List Tree → Option Tree
  | [] => none
  | t :: ts => match findTr id t with
    | some u => some u
    | none => findTrs id ts
end
mutual
theorem findD_tree (id : Int) (me : AV) : ∀ d : DT, (findD id me d).map (·.2.tree) = findTr id d.tree
  | .node i k s o ks => by
    rw [findD, DT.tree, findTr]
    by_cases h : i = id
    · rw [if_pos h, if_pos h, Option.map_some, DT.tree]
    · rw [if_neg h, if_neg h, findDs_tree id _ 0 ks]
theorem findDs_tree (id : Int) (p j : Nat) : ∀ ks : List DT, (findDs id p j ks).map (·.2.tree) = findTrs id (treesD ks)
  | [] => rfl
  | d :: ds => by
    rw [findDs, treesD, findTrs]
    have h1 := findD_tree id (.ref p 4 j 0) d
    cases hf : findD id (.ref p 4 j 0) d with
    | some r => rw [hf] at h1; rw [← h1]; rfl
    | none =>
      rw [hf] at h1
      rw [← h1]
      exact findDs_tree id p (j + 1) ds
end
def Tree.put (s : ByteArray) (ks : List Tree) : Tree → Tree
  | .node i k _ _ => .node i k s ks
def Tree.kids : Tree → List Tree
  | .node _ _ _ ks => ks
def Tree.txt : Tree → ByteArray
  | .node _ _ s _ => s
/-- A step's cells. -/
def scells (E : Em) : Stp → List AV
  | ⟨op, id, par, pl, text, .node i k s ks⟩ => [.int .i8 op, .int .i64 id, .int .i64 par, .int .i64 pl, .str text, .int .i64 i, .int .i64 k, .str s, .sl 4 (E.tree.l ks)]
theorem scells_pur (E : Em) (x : Stp) : purL [.imm (scells E x)] = true := by
  obtain ⟨op, id, par, pl, text, i, k, s, ks⟩ := x
  simp [scells, purL, AV.pur, E.tree.purL]
/-- What a step leaves: its errno, and the tree. -/
def wR (q : Nat) (d : DT) (r : Tree × Int) (L : Store) : AEnd → Store → Prop := fun x L' => x = .ret (.int .i64 r.2) ∧ L.length ≤ L'.length ∧ (r.2 = 0 → ∃ d' : DT, d'.tree = r.1 ∧ L'[q]? = some (some (.box 4 d'.cell)) ∧ d'.ok L' ∧ (q :: d'.foot).Nodup) ∧ ∀ y, y < L.length → y ∉ q :: d.foot → L'[y]? = L[y]?
def wText (x : Stp) (t : Tree) : Tree × Int := match findTr x.id t with
  | some u => (modT x.id (u.put x.text u.kids) t, 0)
  | none => (t, 4)
theorem mod_root {id : Int} {d u : DT} (h : d.tree.id = id) : modD id u d = u := by
  obtain ⟨i, k, s, o, ks⟩ := d
  rw [DT.tree_id] at h
  rw [modD, if_pos h]
set_option maxHeartbeats 2000000 in
theorem text54 (A : Ar) (E : Em) {P : Program} (hP : P = Try.prog) (x : Stp) (m : Nat) (d : DT) (L : Store) (q : Nat) (hw : within m d.tree) (hd : d.ok L) (hn : (q :: d.foot).Nodup) (hq : L[q]? = some (some (.box 4 d.cell))) : TC P 54 [.ref q 4 0 0, .imm (scells E x)] L (wR q d (wText x d.tree) L) := by
  have hf := find51 A E hP x.id m d L (.ref q 4 0 0) hw hd (.inr ⟨q, rfl, hq⟩)
  have hft := findD_tree x.id (.ref q 4 0 0) d
  have hmod := find_mod x.id m d (.ref q 4 0 0) L hw hd (List.nodup_cons.1 hn).2
  have hlq := (List.getElem?_eq_some_iff.1 hq).1
  obtain ⟨op, id, par, pl, tx, i0, k0, s0, ks0⟩ := x
  dsimp only at hf hft hmod
  obtain ⟨rr, hrr⟩ : ∃ r, r = wText ⟨op, id, par, pl, tx, .node i0 k0 s0 ks0⟩ d.tree := ⟨_, rfl⟩
  rw [← hrr]
  unfold wText at hrr
  dsimp only at hrr
  rw [← hft] at hrr
  unfold scells
  refine TC.of_ewp A T0 (T0_ok hP) (hP ▸ Try.func54) rfl _ rfl (by simp) ?_
  obtain ⟨R, hR⟩ : ∃ R, R = wR q d rr L := ⟨_, rfl⟩
  rw [← hR]
  obtain ⟨fr, hfr⟩ : ∃ r, r = findD id (.ref q 4 0 0) d := ⟨_, rfl⟩
  rw [← hfr] at hf hrr
  cbv
  ((try cbv) <;> (repeat ((with_reducible refine EW.of ?_); cbv)))
  refine byes (bleM _ _ (Nat.le_refl _)) ?_
  refine ⟨Ent.of (hP ▸ Try.func51) rfl, TC.mono hf ?_⟩
  rintro y L2 ⟨rfl, rfl⟩
  cases fr with
  | none =>
    replace hrr : rr = (d.tree, 4) := hrr
    have hres : R (.ret (.int .i64 4)) L2 := by rw [hR, hrr]; exact ⟨rfl, Nat.le_refl _, fun h => absurd (show (4 : Int) = 0 from h) (by decide), fun _ _ _ => rfl⟩
    cbv
    ((try cbv) <;> (repeat ((with_reducible refine EW.of ?_); cbv)))
    exact ⟨_, L2, VSV.refl _ _ _, hres⟩
  | some r =>
    obtain ⟨a, e⟩ := r
    obtain ⟨i1, k1, s1, o1, ks1, hed⟩ : ∃ i k s o ks, e = DT.node i k s o ks := by cases e; exact ⟨_, _, _, _, _, rfl⟩
    obtain ⟨kid, hkid⟩ : ∃ kid, kid = kidAV ks1.length o1 := ⟨_, rfl⟩
    have hec : e.cell = .agg [.int .i64 i1, .int .i64 k1, .str s1, kid] := by rw [hed, hkid]; rfl
    obtain ⟨u, hu⟩ : ∃ u, u = DT.node i1 k1 tx o1 ks1 := ⟨_, rfl⟩
    have huc : u.cell = .agg [.int .i64 i1, .int .i64 k1, .str tx, kid] := by rw [hu, hkid]; rfl
    have hut : u.tree = e.tree.put tx e.tree.kids := by rw [hu, hed]; rfl
    have huf : u.foot = e.foot := by rw [hu, hed]; rfl
    replace hrr : rr = ((modD id u d).tree, 0) := by rw [hrr, modD_tree, hut]; rfl
    rcases hmod a e hfr.symm with ⟨rfl, rfl, hid⟩ | ⟨hid, p, j, els, rfl, hp, hpL, hej, heo, hen, hes, hall⟩
    · have hq2 : L2[q]? = some (some (.box 4 (.agg [.int .i64 i1, .int .i64 k1, .str s1, kid]))) := by rw [hq, hec]
      cbv
      ((try cbv) <;> (repeat ((with_reducible refine EW.of ?_); cbv)))
      simp only [← List.get?Internal.eq_def]
      rw [show L2.get?Internal q = _ from hq2]
      refine chk_iff.2 ⟨by rw [hkid]; cases o1 <;> rfl, ?_⟩
      generalize hL3 : List.set L2 q _ = L3
      replace hL3 : L3 = L2.set q (some (AO.box 4 (.agg [.int .i64 i1, .int .i64 k1, .str tx, kid]))) := hL3.symm
      have hne : ∀ y, y ≠ q → L3[y]? = L2[y]? := fun y hy => by rw [hL3, List.getElem?_set_ne (Ne.symm hy)]
      have hres : R (.ret (.int .i64 0)) L3 := by
        rw [hR, hrr]
        refine ⟨rfl, by rw [hL3, List.length_set]; exact Nat.le_refl _, fun _ => ⟨u, by rw [mod_root hid], by rw [huc, hL3, List.getElem?_set_self hlq], ?_, by rw [huf]; exact hn⟩, fun y h1 h2 => hne y fun e => h2 (e ▸ List.mem_cons_self ..)⟩
        have : (DT.node i1 k1 s1 o1 ks1).ok L3 := by rw [← hed]; exact DT.ok.same (fun y hy => hne y fun e => (List.nodup_cons.1 hn).1 (e ▸ hy)) hd
        rw [hu]
        exact this
      cbv
      ((try cbv) <;> (repeat ((with_reducible refine EW.of ?_); cbv)))
      exact ⟨_, L3, VSV.refl _ _ _, hres⟩
    · have hej' : els[j]? = some (.agg [.int .i64 i1, .int .i64 k1, .str s1, kid]) := by rw [hej, hec]
      have hqp : q ≠ p := fun e => (List.nodup_cons.1 hn).1 (e ▸ hp)
      have hpl := (List.getElem?_eq_some_iff.1 hpL).1
      cbv
      ((try cbv) <;> (repeat ((with_reducible refine EW.of ?_); cbv)))
      simp only [← List.get?Internal.eq_def]
      rw [show L2.get?Internal p = _ from hpL]
      refine chk_iff.2 ⟨by rfl, ?_⟩
      refine ⟨_, els.set j (.agg [.int .i64 i1, .int .i64 k1, .str tx, kid]), hej', by rfl, by rw [hkid]; cases o1 <;> rfl, ?_⟩
      generalize hL3 : List.set L2 p _ = L3
      replace hL3 : L3 = L2.set p (some (AO.arr 4 (els.set j (.agg [.int .i64 i1, .int .i64 k1, .str tx, kid])))) := hL3.symm
      have hne : ∀ y, y ≠ p → L3[y]? = L2[y]? := fun y hy => by rw [hL3, List.getElem?_set_ne (Ne.symm hy)]
      have hres : R (.ret (.int .i64 0)) L3 := by
        rw [hR, hrr]
        have huo : u.ok L3 := by
          have : (DT.node i1 k1 s1 o1 ks1).ok L3 := by rw [← hed]; exact DT.ok.same (fun y hy => hne y fun e2 => (List.nodup_cons.1 hen).1 (e2 ▸ hy)) heo
          rw [hu]
          exact this
        obtain ⟨c1, c2, c3, c4⟩ := hall L3 u huo (by rw [huf]; exact (List.nodup_cons.1 hen).2) (fun y hy => .inl (huf ▸ hy)) (by rw [hL3, List.getElem?_set_self hpl, huc]) fun y _ h2 _ => hne y h2
        refine ⟨rfl, by rw [hL3, List.length_set]; exact Nat.le_refl _, fun _ => ⟨modD id u d, rfl, by rw [hne q hqp, hq, c2], c1, List.nodup_cons.2 ⟨fun h => ?_, c3⟩⟩, fun y h1 h2 => hne y fun e => h2 (List.mem_cons_of_mem _ (e ▸ hp))⟩
        rcases c4 q h with h | h
        · exact (List.nodup_cons.1 hn).1 h
        · exact (List.nodup_cons.1 hn).1 (hes q (huf ▸ h))
      cbv
      ((try cbv) <;> (repeat ((with_reducible refine EW.of ?_); cbv)))
      exact ⟨_, L3, VSV.refl _ _ _, hres⟩
end Go.Proofs.Ytaieiigfheabfaa

/-! tree.Find. -/
namespace Go.Proofs.Ytaieiigfheabfaa
open Go.Proofs.Ytaieiigfheabfaa.Tw
def fndF (id : Int) (x : Option Tree) (t : Tree) (_ : Nat) : Option Tree × Bool := if t.id = id then (some t, false) else (x, true)
mutual
theorem run_find (id : Int) : ∀ (t : Tree) (d : Nat), runT (fndF id) t d none = (findTr id t, (findTr id t).isNone)
  | .node i k s ks, d => by
    rw [runT, findTr, fndF]
    by_cases h : i = id
    · rw [if_pos (show Tree.id (.node i k s ks) = id from h), if_pos h]; rfl
    · rw [if_neg (show ¬ Tree.id (.node i k s ks) = id from h), if_neg h]
      exact runs_find id ks (d + 1)
theorem runs_find (id : Int) : ∀ (ts : List Tree) (d : Nat), runK (fndF id) ts d none = (findTrs id ts, (findTrs id ts).isNone)
  | [], d => rfl
  | t :: ts, d => by
    rw [runK, findTrs, run_find id t d]
    cases findTr id t with
    | some u => rfl
    | none => exact runs_find id ts d
end
def loopF (l0 : List (Nat × AV)) (ps : Array Tmp) (ac bd : Code) : Option Tree → Option AO
  | none => some (.loop .ready none 19 l0 ps ac bd)
  | some _ => some (.loop .done (some .ret) 19 l0 ps ac bd)
def resF (E : Em) : Option Tree → AV
  | none => .agg [.int .i64 0, .int .i64 0, .str ⟨⟨[]⟩⟩, .nils]
  | some u => .agg (nodeC E u)
def fndSt (E : Em) (l0 : List (Nat × AV)) (ps : Array Tmp) (ac bd : Code) (x : Option Tree) : Store := [some (.box 4 (resF E x)), some (.box 1 (.bool x.isSome)), loopF l0 ps ac bd x]
def conF {P : Program} {E : Em} (id : Int) (l0 : List (Nat × AV)) (ps : Array Tmp) (ac bd : Code) (h0 : l0.all (fun x => x.2.upto 3) = true)
    (hy : ∀ m t (d : Nat), within m t → YS P (fndSt E l0 ps ac bd none) 2 [.int .i64 (d : Int), E.tree.v t] (fndF id none t d).2 (fndSt E l0 ps ac bd (fndF id none t d).1)) : ConT P E where
  σ := Option Tree
  st := fndSt E l0 ps ac bd
  K := 3
  p := 2
  f := fndF id
  Iv := fun x => x = none
  len := fun x => rfl
  up := fun x => by
    have hu := fun t => uptoL_pur 3 _ (nodeC_pur E t)
    cases x <;> simpa [fndSt, loopF, resF, oUpto, AO.upto, AV.upto, uptoL, hu] using h0
  lt := by decide
  inv := fun x t d hx h => by
    unfold fndF at h ⊢
    split
    · rename_i hc; rw [if_pos hc] at h; cases h
    · exact hx
  ys := fun n x t d hx hw _ => by
    subst hx
    exact hy n t d hw
def foundAV (E : Em) (o : Option Tree) : AV := .tup [E.tree.v (o.getD t0), .bool o.isSome]
set_option maxRecDepth 100000 in
set_option maxHeartbeats 4000000 in
theorem Find57 (A : Ar) (E : Em) {P : Program} (hP : P = Try.prog) (id : Int) (m : Nat) (hm : m ≤ 999999) (t : Tree) (hw : within m t) : TPure P 57 [E.tree.v t, .int .i64 id] (foundAV E (findTr id t)) := by
  have k74 := Walk74 A E hP t
  have k83 := Walk83 A E hP m hm t hw
  have hrun := run_find id t 1
  have hcopy := copy63 A E hP
  obtain ⟨r, hr⟩ : ∃ r, r = findTr id t := ⟨_, rfl⟩
  rw [← hr] at hrun ⊢
  obtain ⟨i, k, s, ks⟩ := t
  rw [E.node] at k74 ⊢
  have hc := nodeC_pur E (.node i k s ks)
  unfold nodeC at k74 k83 hc
  have p1 : Tw.Pur [.int .i64 i, .int .i64 k, .str s, .sl 4 (E.tree.l ks)] := ⟨hc⟩
  obtain ⟨RV, hRV⟩ : ∃ v, v = foundAV E r := ⟨_, rfl⟩
  rw [← hRV]
  refine TPure.ofE A T0 (T0_ok hP) (hP ▸ Try.func57) rfl _ rfl (by simp) ?_
  cbv
  refine EW.vs [(5, .ref 1 1 0 0), (4, .ref 0 4 0 0), (3, .imm [.int .i64 id]), (2, .imm [.int .i64 i, .int .i64 k, .str s, .sl 4 (E.tree.l ks)])] [some (.box 4 (.agg [.int .i64 0, .int .i64 0, .str ⟨⟨[]⟩⟩, .nils])), some (.box 1 (.bool false))] 19 rfl ?_
  cbv
  (repeat (first | refine And.intro p1 ?_ | refine And.intro rfl ?_ | refine And.intro (Pur.mk rfl) ?_))
  (refine ⟨Ent.of (hP ▸ Try.func74) rfl, ?_⟩; refine TC.pureE k74 ?_; cbv; (repeat (first | exact trivial | refine And.intro (Emb.Pur _ _) ?_ | refine And.intro rfl ?_ | refine And.intro (Pur.mk rfl) ?_ | refine And.intro (Pur.mk (by assumption)) ?_)); ((try cbv) <;> (repeat ((with_reducible refine EW.of ?_); cbv))))
  refine TW.vsE [(9, .func (.func 83) [] [.imm [.int .i64 i, .int .i64 k, .str s, .sl 4 (E.tree.l ks)]]), (5, .ref 1 1 0 0), (4, .ref 0 4 0 0), (3, .imm [.int .i64 id]), (2, .imm [.int .i64 i, .int .i64 k, .str s, .sl 4 (E.tree.l ks)])] [some (.box 4 (.agg [.int .i64 0, .int .i64 0, .str ⟨⟨[]⟩⟩, .nils])), some (.box 1 (.bool false))] 19 rfl ?_
  cbv
  (repeat (first | exact trivial | refine And.intro p1 ?_ | refine And.intro (Emb.Pur _ _) ?_ | refine And.intro rfl ?_ | refine And.intro (Pur.mk rfl) ?_))
  refine TW.range rfl rfl (Ent.of (hP ▸ Try.func83) rfl) ?_
  refine TC.mono (k83 (conF (P := P) (E := E) id _ _ _ _ ?h0 ?hy) (none : Option Tree) rfl) ?_
  case h0 =>
    simp only [List.all_cons, List.all_nil, AV.upto, uptoL, uptoL_pur _ _ (E.tree.purL _), Bool.and_true]
    decide
  case hy =>
    intro m2 t2 d2 hw2
    have hc2 := hcopy m2 t2 hw2
    obtain ⟨i2, k2, s2, ks2⟩ := t2
    rw [E.node] at hc2 ⊢
    by_cases hid : i2 = id
    · rw [show fndF id none (.node i2 k2 s2 ks2) d2 = (some (.node i2 k2 s2 ks2), false) from if_pos hid]
      refine YS.of (n := 19) (l1 := [(7, .imm [.int .i64 i2, .int .i64 k2, .str s2, .sl 4 (E.tree.l ks2)]), (9, .func (.func 83) [] [.imm [.int .i64 i, .int .i64 k, .str s, .sl 4 (E.tree.l ks)]]), (5, .ref 1 1 0 0), (4, .ref 0 4 0 0), (3, .imm [.int .i64 id]), (2, .imm [.int .i64 i, .int .i64 k, .str s, .sl 4 (E.tree.l ks)])]) rfl rfl rfl ?_ ?_ ?_ ?_ ?_
      · simp [fndSt, loopF, resF, oUpto, AO.upto, AV.upto, uptoL, uptoL_pur _ _ (E.tree.purL _)]
      · simp [fndSt, aputs, aputf, oUpto, AO.upto, AV.upto, uptoL, uptoL_pur _ _ (E.tree.purL _)]
      · simp [fndSt, aputs, aputf, oUpto, AO.upto, AV.upto, uptoL, uptoL_pur _ _ (E.tree.purL _)]
      · intro kk
        refine Tw.vsPost ?_
        refine Tw.of_ewpT (A := A) (T0_ok hP) ?_
        cbv
        refine .inr ⟨_, _, fun v h => (by cases h), VS.trans (VS.pick (l := [(7, .ref 3 4 0 0), (9, .func (.func 83) [] [.imm [.int .i64 i, .int .i64 k, .str s, .sl 4 (E.tree.l ks)]]), (5, .ref 1 1 0 0), (4, .ref 0 4 0 0), (3, .imm [.int .i64 id]), (2, .imm [.int .i64 i, .int .i64 k, .str s, .sl 4 (E.tree.l ks)])]) rfl (.cons (Sub.refl _) (.cons (Sub.refl _) (.cons (Sub.refl _) (.cons (Sub.refl _) (.cons (Sub.refl _) (.cons (Sub.refl _) .nil))))))) (VS.frzLast (L := fndSt E _ _ _ _ none) (wd := 4) (v := .agg [.int .i64 i2, .int .i64 k2, .str s2, .sl 4 (E.tree.l ks2)]) (Nat.le_refl _) rfl ?_ ?_ ?_), rfl, rfl, rfl⟩
        · simp [AV.upto, uptoL, uptoL_pur _ _ (E.tree.purL _)]
        · simp [fndSt, AV.upto, uptoL, uptoL_pur _ _ (E.tree.purL _)]
        · simp [fndSt, loopF, resF, oUpto, AO.upto, AV.upto, uptoL, uptoL_pur _ _ (E.tree.purL _)]
      intro kk
      refine Tw.of_ewpT (A := A) (T0_ok hP) ?_
      cbv
      ((try cbv) <;> (repeat ((with_reducible refine EW.of ?_); cbv)))
      refine byes (show A.eq i2 id = true by rw [A.ok_eq, hid]; simp) ?_
      ((try cbv) <;> (repeat ((with_reducible refine EW.of ?_); cbv)))
      (refine ⟨Ent.of (hP ▸ Try.func63) rfl, ?_⟩; refine TC.pureE hc2 ?_; cbv; (repeat (first | exact trivial | refine And.intro (Emb.Pur _ _) ?_ | refine And.intro rfl ?_ | refine And.intro (Pur.mk rfl) ?_ | refine And.intro (Pur.mk (by assumption)) ?_)); ((try cbv) <;> (repeat ((with_reducible refine EW.of ?_); cbv))))
    · rw [show fndF id none (.node i2 k2 s2 ks2) d2 = (none, true) from if_neg hid]
      refine YS.of (n := 19) (l1 := [(7, .imm [.int .i64 i2, .int .i64 k2, .str s2, .sl 4 (E.tree.l ks2)]), (9, .func (.func 83) [] [.imm [.int .i64 i, .int .i64 k, .str s, .sl 4 (E.tree.l ks)]]), (5, .ref 1 1 0 0), (4, .ref 0 4 0 0), (3, .imm [.int .i64 id]), (2, .imm [.int .i64 i, .int .i64 k, .str s, .sl 4 (E.tree.l ks)])]) rfl rfl rfl ?_ ?_ ?_ ?_ ?_
      · simp [fndSt, loopF, resF, oUpto, AO.upto, AV.upto, uptoL, uptoL_pur _ _ (E.tree.purL _)]
      · simp [fndSt, aputs, aputf, oUpto, AO.upto, AV.upto, uptoL, uptoL_pur _ _ (E.tree.purL _)]
      · simp [fndSt, aputs, aputf, oUpto, AO.upto, AV.upto, uptoL, uptoL_pur _ _ (E.tree.purL _)]
      · intro kk
        refine Tw.vsPost ?_
        refine Tw.of_ewpT (A := A) (T0_ok hP) ?_
        cbv
        refine .inr ⟨_, _, fun v h => (by cases h), VS.trans (VS.pick (l := [(7, .ref 3 4 0 0), (9, .func (.func 83) [] [.imm [.int .i64 i, .int .i64 k, .str s, .sl 4 (E.tree.l ks)]]), (5, .ref 1 1 0 0), (4, .ref 0 4 0 0), (3, .imm [.int .i64 id]), (2, .imm [.int .i64 i, .int .i64 k, .str s, .sl 4 (E.tree.l ks)])]) rfl (.cons (Sub.refl _) (.cons (Sub.refl _) (.cons (Sub.refl _) (.cons (Sub.refl _) (.cons (Sub.refl _) (.cons (Sub.refl _) .nil))))))) (VS.frzLast (L := fndSt E _ _ _ _ none) (wd := 4) (v := .agg [.int .i64 i2, .int .i64 k2, .str s2, .sl 4 (E.tree.l ks2)]) (Nat.le_refl _) rfl ?_ ?_ ?_), rfl, rfl, rfl⟩
        · simp [AV.upto, uptoL, uptoL_pur _ _ (E.tree.purL _)]
        · simp [fndSt, AV.upto, uptoL, uptoL_pur _ _ (E.tree.purL _)]
        · simp [fndSt, loopF, resF, oUpto, AO.upto, AV.upto, uptoL, uptoL_pur _ _ (E.tree.purL _)]
      intro kk
      refine Tw.of_ewpT (A := A) (T0_ok hP) ?_
      cbv
      ((try cbv) <;> (repeat ((with_reducible refine EW.of ?_); cbv)))
      refine bno (show A.eq i2 id = false by rw [A.ok_eq]; simpa using hid) ?_
      ((try cbv) <;> (repeat ((with_reducible refine EW.of ?_); cbv)))
  rintro e L1 ⟨rfl, rfl⟩
  rw [show runT (conF (P := P) (E := E) id _ _ _ _ _ _).f (.node i k s ks) 1 (none : Option Tree) = (r, r.isNone) from hrun]
  dsimp only [conF]
  unfold fndSt
  cases r with
  | none =>
    rw [show RV = .tup [.agg [.int .i64 0, .int .i64 0, .str ⟨#[]⟩, .sl 4 []], .bool false] from by rw [hRV, foundAV]; unfold t0; rw [Option.getD_none, E.node, E.tree.nil]; rfl]
    dsimp only [loopF, resF]
    cbv
    ((try cbv) <;> (repeat ((with_reducible refine EW.of ?_); cbv)))
    (repeat (first | exact trivial | refine And.intro (Emb.Pur _ _) ?_ | refine And.intro rfl ?_ | refine And.intro (Pur.mk rfl) ?_ | refine And.intro (Pur.mk (by assumption)) ?_))
  | some u =>
    obtain ⟨ui, uk, us, uks⟩ := u
    rw [show RV = .tup [.agg [.int .i64 ui, .int .i64 uk, .str us, .sl 4 (E.tree.l uks)], .bool true] from by rw [hRV, foundAV, Option.getD_some, E.node]; rfl]
    dsimp only [loopF, resF, nodeC]
    cbv
    (repeat (first | exact trivial | refine And.intro (Emb.Pur _ _) ?_ | refine And.intro rfl ?_ | refine And.intro (Pur.mk rfl) ?_ | refine And.intro (Pur.mk (by assumption)) ?_))
end Go.Proofs.Ytaieiigfheabfaa

/-! Paths and parents (portable). -/
namespace Go.Proofs.Ytaieiigfheabfaa
open Go.Proofs.Ytaieiigfheabfaa.Tw
mutual
/-- The place of the first node of an id. -/
def pathT (id : Int) : Tree → Option (List Int)
  | .node i _ _ ks => if i = id then some [] else pathK id ks 0
def pathK (id : Int) : List Tree → Nat → Option (List Int)
  | [], _ => none
  | t :: ts, n => match pathT id t with
    | some p => some ((n : Int) :: p)
    | none => pathK id ts (n + 1)
end
theorem pathK_drop {id : Int} : ∀ {ks : List Tree} {j n : Nat} {t : Tree}, ks[j]? = some t → pathK id (ks.drop j) n = match pathT id t with | some p => some ((n : Int) :: p) | none => pathK id (ks.drop (j + 1)) (n + 1)
  | [], j, n, t, h => by simp at h
  | k :: ks, 0, n, t, h => by simp at h; subst h; simp [pathK]
  | k :: ks, j + 1, n, t, h => by simp only [List.drop_succ_cons]; exact pathK_drop (by simpa using h)
mutual
theorem pathT_len (id : Int) : ∀ (t : Tree) (n : Nat) (p : List Int), within n t → pathT id t = some p → p.length < n
  | .node i k s ks, 0, p, h, _ => h.elim
  | .node i k s ks, n + 1, p, h, hp => by
    simp only [pathT] at hp
    split at hp
    · cases hp; simp
    · exact pathK_len id ks n 0 p h.2 hp
theorem pathK_len (id : Int) : ∀ (ks : List Tree) (n j : Nat) (p : List Int), (∀ t ∈ ks, within n t) → pathK id ks j = some p → p.length < n + 1
  | [], n, j, p, _, hp => by simp [pathK] at hp
  | t :: ts, n, j, p, h, hp => by
    simp only [pathK] at hp
    split at hp
    · rename_i q hq
      cases hp
      have := pathT_len id t n q (h t (by simp)) hq
      simp; omega
    · exact pathK_len id ts n (j + 1) p (fun t ht => h t (by simp [ht])) hp
end
theorem Sub.tup2 {a b c d : AV} (h : Tw.Sub a c) (k : Tw.Sub b d) : Tw.Sub (.tup [a, b]) (.tup [c, d]) := .tup rfl fun j x y hx hy => by
  match j, hx, hy with
  | 0, hx, hy => simp at hx hy; subst hx hy; exact h
  | 1, hx, hy => simp at hx hy; subst hx hy; exact k
  | j + 2, hx, hy => simp at hx
theorem FSub.tup2 {p w : Nat} {els : List AV} {a b c d : AV} (h : FSub p w els a c) (k : FSub p w els b d) : FSub p w els (.tup [a, b]) (.tup [c, d]) := .tup _ _ rfl fun j x y hx hy => by
  match j, hx, hy with
  | 0, hx, hy => simp at hx hy; subst hx hy; exact h
  | 1, hx, hy => simp at hx hy; subst hx hy; exact k
  | j + 2, hx, hy => simp at hx
theorem ints_scal (l : List Int) : escal (ints l) = true := by
  simp [escal, ints, AV.cells, AV.scalar]
def pathAV (o : Option (List Int)) : AV := .tup [.sl 1 (ints (o.getD [])), .bool o.isSome]
def atT : Tree → List Int → Option Tree
  | t, [] => some t
  | .node _ _ _ ks, i :: p => if i < 0 then none else match ks[i.toNat]? with
    | some k => atT k p
    | none => none
def atAV (o : Option Tree) : AV := .tup [(o.getD t0).av, .bool o.isSome]
def upT (t : Tree) (p : List Int) (n : Nat) : Tree := (atT t (p.take n)).getD t0
def parentS (t : Tree) (id : Int) : Int × Int × Bool :=
  match pathT id t with
  | some (a :: q) => ((upT t (a :: q) q.length).id, ((a :: q)[q.length]?).getD 0, true)
  | _ => (0, 0, false)
def parentAV (r : Int × Int × Bool) : AV := .tup [.int .i64 r.1, .int .i64 r.2.1, .bool r.2.2]
theorem ints_take (l : List Int) (n : Nat) : (ints l).take n = ints (l.take n) := by simp [ints, List.map_take]
theorem at57 (A : Ar) {P : Program} (hP : P = Try.prog) (n : Nat) (t : Tree) (hw : within n t) (p : List Int) (hp : p.length < 9223372036854775807) : TPure P 76 [t.av, .sl 1 (ints p)] (atAV (atT t p)) := by
  refine TPure.of (TC.of_ewp A T0 (T0_ok hP) (hP ▸ Try.func76) rfl _ rfl (by simp) ?_)
  have hpi := ints_pur p
  have hli := ints_len p
  generalize hip : ints p = ip at hpi hli
  generalize hr : atT t p = r
  obtain ⟨i, k, s, ks⟩ := t
  simp only [Tree.av]
  have hpk := avs_pur ks
  have hlk := avs_len ks
  generalize hks : avs ks = aks at hpk hlk
  cbv
  ((try cbv) <;> (repeat ((with_reducible refine EW.of ?_); cbv)))
  obtain ⟨z, hz⟩ : ∃ z : AV, z = .agg [.int .i64 0, .int .i64 0, .str ⟨⟨[]⟩⟩, .nils] := ⟨_, rfl⟩
  rw [← hz]
  obtain ⟨J, hJ⟩ : ∃ J : Nat → AFr → Store → Prop, J = fun c fr L => ∃ j : Nat, c = p.length - j ∧ j ≤ p.length ∧ ∃ (n : Nat) (i k : Int) (s : ByteArray) (ks : List Tree), within n (.node i k s ks) ∧ atT (.node i k s ks) (p.drop j) = r ∧
      fr = ⟨31, [(10, .int .i64 j), (9, .int .i64 (A.len ip)), (8, .sl 1 ip), (4, .ref 1 4 0 0), (2, .ref 0 4 0 0)]⟩ ∧ L = [some (.box 4 (.agg [.int .i64 i, .int .i64 k, .str s, .sl 4 (avs ks)])), some (.box 4 z)] := ⟨_, rfl⟩
  refine TW.loopE A (T0_ok hP) J (n0 := p.length) (fr0 := ⟨31, [(10, .int .i64 0), (9, .int .i64 (A.len ip)), (8, .sl 1 ip), (4, .ref 1 4 0 0), (2, .ref 0 4 0 0)]⟩) (L0 := [some (.box 4 (.agg [.int .i64 i, .int .i64 k, .str s, .sl 4 aks])), some (.box 4 z)])
    (VS.pick rfl (.cons (Sub.refl _) (.cons (Sub.refl _) (.cons (Sub.refl _) (.cons (Sub.refl _) (.cons (Sub.refl _) .nil)))))) (by rw [hJ]; exact ⟨0, rfl, Nat.zero_le _, n, i, k, s, ks, hw, hr, rfl, by rw [hks]⟩) ?_
  intro c fr L hj
  rw [hJ] at hj
  obtain ⟨j, hc, hj, n', i', k', s', ks', hw', hinv, rfl, rfl⟩ := hj
  have hpk' := avs_pur ks'
  have hlk' := avs_len ks'
  have hwl := hw'.len
  generalize hks' : avs ks' = aks' at hpk' hlk'
  subst hz
  have zero : Tw.Sub (.tup [.agg [.int .i64 0, .int .i64 0, .str ⟨⟨[]⟩⟩, .nils], .bool false]) (atAV none) := Sub.tup2 (Sub.agg rfl fun j c d hc hd => by
    match j, hc, hd with
    | 0, hc, hd => cases hc; cases hd; exact Sub.refl _
    | 1, hc, hd => cases hc; cases hd; exact Sub.refl _
    | 2, hc, hd => cases hc; cases hd; exact Sub.refl _
    | 3, hc, hd => cases hc; cases hd; exact Sub.nils 4
    | j + 4, hc, hd => cases hc) (Sub.refl _)
  cbv
  ((try cbv) <;> (repeat ((with_reducible refine EW.of ?_); cbv)))
  refine bsplit (fun h => ?_) (fun h => ?_)
  · have h : j < ip.length := lt_nt h rfl (A.ok_len _)
    obtain ⟨x, hx⟩ : ∃ x, p[j]? = some x := ⟨_, List.getElem?_eq_getElem (by omega)⟩
    have hxa := ints_get hx
    rw [hip] at hxa
    have hd := List.drop_eq_getElem?_toList_append (l := p) (i := j)
    rw [hx] at hd
    simp only [Option.toList_some, List.singleton_append] at hd
    rw [hd] at hinv
    ((try cbv) <;> (repeat ((with_reducible refine EW.of ?_); cbv)))
    refine ⟨j, _, rfl, hxa, ?_⟩
    ((try cbv) <;> (repeat ((with_reducible refine EW.of ?_); cbv)))
    refine bsplit (fun h1 => ?_) (fun h1 => ?_)
    · have h1 : x < 0 := lt_t h1 rfl rfl
      ((try cbv) <;> (repeat ((with_reducible refine EW.of ?_); cbv)))
      simp only [atT, if_pos h1] at hinv
      subst hinv
      exact ⟨_, _, VSV.trans (VSV.sub zero) (VSV.pure rfl), rfl, rfl⟩
    · have h1 : 0 ≤ x := lt_f h1 rfl rfl
      obtain ⟨x', rfl⟩ := Int.eq_ofNat_of_zero_le h1
      have hnx : ¬ ((x' : Int) < 0) := by omega
      simp only [atT, if_neg hnx, Int.toNat_natCast] at hinv
      ((try cbv) <;> (repeat ((with_reducible refine EW.of ?_); cbv)))
      refine bsplit (fun h2 => ?_) (fun h2 => ?_)
      · have h2 : aks'.length ≤ x' := le_nt h2 (A.ok_len _) rfl
        ((try cbv) <;> (repeat ((with_reducible refine EW.of ?_); cbv)))
        have hnk : ks'[x']? = none := List.getElem?_eq_none (by omega)
        rw [hnk] at hinv
        subst hinv
        exact ⟨_, _, VSV.trans (VSV.sub zero) (VSV.pure rfl), rfl, rfl⟩
      · have h2 : x' < aks'.length := le_nf h2 (A.ok_len _) rfl
        obtain ⟨t2, ht2⟩ : ∃ t2, ks'[x']? = some t2 := ⟨_, List.getElem?_eq_getElem (by omega)⟩
        have hav2 := avs_get ht2
        rw [hks'] at hav2
        rw [ht2] at hinv
        have hw2 : ∃ n2, within n2 t2 := by
          cases n' with
          | zero => exact hw'.elim
          | succ n' => exact ⟨n', hw'.2 t2 (List.mem_of_getElem? ht2)⟩
        obtain ⟨n2, hw2⟩ := hw2
        obtain ⟨i2, k2, s2, ks2⟩ := t2
        simp only [Tree.av] at hav2
        generalize hks2 : avs ks2 = aks2 at hav2
        ((try cbv) <;> (repeat ((with_reducible refine EW.of ?_); cbv)))
        refine ⟨x', _, rfl, hav2, ?_⟩
        cbv
        ((try cbv) <;> (repeat ((with_reducible refine EW.of ?_); cbv)))
        refine ⟨p.length - (j + 1), ⟨31, [(10, .int .i64 ((j + 1 : Nat) : Int)), (9, .int .i64 (A.len ip)), (8, .sl 1 ip), (4, .ref 1 4 0 0), (2, .ref 0 4 0 0)]⟩, [some (.box 4 (.agg [.int .i64 i2, .int .i64 k2, .str s2, .sl 4 aks2])), some (.box 4 (.agg [.int .i64 0, .int .i64 0, .str ⟨⟨[]⟩⟩, .nils]))], by omega,
          VS.pick rfl (.cons (Sub.inc A (by omega)) (.cons (Sub.refl _) (.cons (Sub.refl _) (.cons (Sub.refl _) (.cons (Sub.refl _) .nil))))), ?_⟩
        rw [hJ]
        exact ⟨j + 1, rfl, by omega, n2, i2, k2, s2, ks2, hw2, hinv, rfl, by rw [hks2]⟩
  · have h : ip.length ≤ j := lt_nf h rfl (A.ok_len _)
    ((try cbv) <;> (repeat ((with_reducible refine EW.of ?_); cbv)))
    have hd : p.drop j = [] := List.drop_eq_nil_of_le (by omega)
    rw [hd] at hinv
    simp only [atT] at hinv
    subst hinv
    exact ⟨_, _, VSV.trans (VSV.sub (v' := atAV (some (.node i' k' s' ks'))) (Sub.eq (by simp only [atAV, Option.getD_some, Tree.av, Option.isSome_some, hks']; rfl))) (VSV.pure (by simp only [atAV, Option.getD_some, Option.isSome_some, AV.pur, purL, Tree.av_pur]; rfl)), rfl, rfl⟩
theorem TPure.sub2 {P : Program} {f : FuncId} {a b a' b' r : AV} (h : TPure P f [a, b] r) (h1 : Tw.Sub a' a) (h2 : Tw.Sub b' b) : TPure P f [a', b'] r := fun w I vs hI hv => h w I vs hI ⟨hv.1, fun j v c hj hc => by
  match j, hc with
  | 0, hc => simp at hc; subst hc; exact h1 w I [] v (hv.2 0 v a' hj rfl)
  | 1, hc => simp at hc; subst hc; exact h2 w I [] v (hv.2 1 v b' hj rfl)
  | j + 2, hc => simp at hc⟩
end Go.Proofs.Ytaieiigfheabfaa
