import Derived.Test.YtaieiigfheabfaaYh
import Derived.Test.YtaieiigfheabfaaYd
/-! A step in new memory: as a value; as a tree of ours. -/
namespace Go.Proofs.Ytaieiigfheabfaa
open Go.Proofs.Ytaieiigfheabfaa.Tw
theorem copiedP (A : Ar) (E : Em) (F : EmS) {P : Program} (hP : P = Try.prog) (n : Nat) (x : Stp) (hw : within n x.sub) : TPure P 40 [F.l.v x] (F.l.v x) := by
  obtain ⟨op, id, par, pl, tx, i, k, s, ks⟩ := x
  have hc := copy63 A E hP n _ hw
  rw [F.v E]
  rw [E.node] at hc
  refine TPure.ofE A T0 (T0_ok hP) (hP ▸ Try.func40) rfl _ rfl (by simp) ?_
  cbv
  ((try cbv) <;> (repeat ((with_reducible refine EW.of ?_); cbv)))
  (refine ⟨Ent.of (hP ▸ Try.func63) rfl, ?_⟩; refine TC.pureE hc ?_; cbv; (repeat (first | exact trivial | refine And.intro (Emb.Pur _ _) ?_ | refine And.intro rfl ?_ | refine And.intro (Pur.mk rfl) ?_ | refine And.intro (Pur.mk (by assumption)) ?_)); ((try cbv) <;> (repeat ((with_reducible refine EW.of ?_); cbv))))
  (repeat (first | exact trivial | refine And.intro (Emb.Pur _ _) ?_ | refine And.intro rfl ?_ | refine And.intro (Pur.mk rfl) ?_ | refine And.intro (Pur.mk (by assumption)) ?_))
def sR (op i0 par pl : Int) (tx : ByteArray) (t : Tree) (L : Store) : AEnd → Store → Prop := fun x L' => ∃ (M : Store) (d : DT), x = .ret (stepCell op i0 par pl tx d) ∧ L' = L ++ M ∧ d.tree = t ∧ d.ok L' ∧ d.foot.Nodup ∧ ∀ q ∈ d.foot, L.length ≤ q
theorem DT.sh_scell {n m : Nat} {π : List Nat} (op i0 par pl : Int) (tx : ByteArray) (hπ : ∀ q, q < m → π.getD q 0 = n + q) (d : DT) (h : ∀ p ∈ d.foot, p < m) : stepCell op i0 par pl tx (d.sh n) = (stepCell op i0 par pl tx d).ren π := by
  obtain ⟨i, k, s, o, ks⟩ := d
  have hl : (shD n ks).length = ks.length := by rw [shD_map, List.length_map]
  cases o with
  | none => simp only [DT.sh, stepCell, AV.ren, renL, kidAV, Option.map_none]
  | some p =>
    have hp := hπ p (h p (by simp [DT.foot]))
    simp only [DT.sh, stepCell, AV.ren, renL, kidAV, Option.map_some, hl, hp]
theorem sR.call {P : Program} {f : FuncId} {args : List AV} {op i0 par pl : Int} {tx : ByteArray} {t : Tree} (h : TC P f args [] (sR op i0 par pl tx t [])) (hp : purL args = true) (L : Store) : TC P f args L (sR op i0 par pl tx t L) := by
  refine ⟨TCall.frame (L := L) [] h.h List.nodup_nil rfl (fun i p hi => by simp at hi) rfl (fun j a a' ha ha' => ?_) fun x L' _ ⟨M, d, hx, hL, ht, hs, hn, _⟩ => ?_⟩
  · rw [ha] at ha'
    cases ha'
    exact Rn.pure (purL_mem hp (List.mem_of_getElem? ha))
  · obtain rfl : L' = M := hL
    subst hx
    have hπ : ∀ q, q < L'.length → (news L [] L').getD q 0 = L.length + q := fun q hq => newsN L L' hq
    refine ⟨L'.map (·.map (·.ren (news L [] L'))), d.sh L.length, ?_, mergeN .., (DT.sh_tree _ d).trans ht, ?_, ?_, fun q hq => ?_⟩
    · rw [DT.sh_scell op i0 par pl tx hπ d (DT.ok.lt hs)]
      rfl
    · rw [mergeN]
      exact DT.moved hπ hs
    · rw [DT.sh_foot]
      exact List.pairwise_map.2 (hn.imp fun hab e => hab (Nat.add_left_cancel e))
    · rw [DT.sh_foot] at hq
      obtain ⟨z, _, rfl⟩ := List.mem_map.1 hq
      omega
set_option maxHeartbeats 1000000 in
theorem copiedD (A : Ar) (E : Em) (F : EmS) {P : Program} (hP : P = Try.prog) (n : Nat) (op i0 par pl : Int) (tx : ByteArray) (t : Tree) (hw : within n t) : TC P 40 [F.l.v ⟨op, i0, par, pl, tx, t⟩] [] (sR op i0 par pl tx t []) := by
  have hc := copyD A E hP n t hw
  obtain ⟨i, k, s, ks⟩ := t
  rw [F.v E]
  rw [E.node] at hc
  have ppk : purL [.agg [.int .i64 i, .int .i64 k, .str s, .sl 4 (E.tree.l ks)]] = true := by (repeat (first | exact rfl | exact Emb.purL _ _ | assumption | apply pur_cons | apply pur_sl | apply pur_slt | apply pur_agg | apply pur_tup))
  refine TC.of_ewp A T0 (T0_ok hP) (hP ▸ Try.func40) rfl _ rfl (by simp) ?_
  obtain ⟨R, hR⟩ : ∃ R, R = sR op i0 par pl tx (.node i k s ks) [] := ⟨_, rfl⟩
  rw [← hR]
  cbv
  ((try cbv) <;> (repeat ((with_reducible refine EW.of ?_); cbv)))
  refine ⟨Ent.of (hP ▸ Try.func63) rfl, TC.mono (dR.call hc ppk _) ?_⟩
  rintro x L4 ⟨M, d, rfl, hL4, hdt, hd, hdn, hge⟩
  obtain ⟨o, dks, hdd, hdk⟩ := DT.cell_node hdt
  have g0 : L4[0]? = some (some (.box 9 (.agg [.int .i8 op, .int .i64 i0, .int .i64 par, .int .i64 pl, .str tx, .int .i64 i, .int .i64 k, .str s, .sl 4 (E.tree.l ks)]))) := by rw [hL4]; rfl
  have g1 : L4[1]? = some (some (.box 9 (.agg [.int .i8 0, .int .i64 0, .int .i64 0, .int .i64 0, .str ⟨#[]⟩, .int .i64 0, .int .i64 0, .str ⟨#[]⟩, .nils]))) := by rw [hL4]; rfl
  have hge2 : ∀ q ∈ d.foot, 2 ≤ q := fun q hq => hge q hq
  cases o with
  | none =>
    have hcell : d.cell = .agg [.int .i64 i, .int .i64 k, .str s, .sl 4 []] := by rw [hdd]; rfl
    rw [hcell]
    cbv
    simp only [← List.get?Internal.eq_def]
    rw [show L4.get?Internal 0 = _ from g0]
    refine chk_iff.2 ⟨by rfl, ?_⟩
    generalize hL6 : List.set L4 0 _ = L6
    replace hL6 : L6 = L4.set 0 (some (.box 9 (.agg [.int .i8 op, .int .i64 i0, .int .i64 par, .int .i64 pl, .str tx, .int .i64 i, .int .i64 k, .str s, .sl 4 []]))) := hL6.symm
    have h0l := (List.getElem?_eq_some_iff.1 g0).1
    have h1l := (List.getElem?_eq_some_iff.1 g1).1
    have k0 : L6[0]? = some (some (.box 9 (.agg [.int .i8 op, .int .i64 i0, .int .i64 par, .int .i64 pl, .str tx, .int .i64 i, .int .i64 k, .str s, .sl 4 []]))) := by rw [hL6, List.getElem?_set_self h0l]
    have k6 : ∀ x, x ≠ 0 → L6[x]? = L4[x]? := fun x hx => by rw [hL6, List.getElem?_set_ne (Ne.symm hx)]
    have k1 := (k6 1 (by decide)).trans g1
    cbv
    with_reducible refine EW.of ?_
    cbv
    simp only [← List.get?Internal.eq_def]
    rw [show L6.get?Internal 0 = _ from k0]
    cbv
    simp only [← List.get?Internal.eq_def]
    rw [show L6.get?Internal 1 = _ from k1]
    refine chk_iff.2 ⟨by rfl, ?_⟩
    generalize hL7 : List.set L6 1 _ = L7
    replace hL7 : L7 = L6.set 1 (some (.box 9 (.agg [.int .i8 op, .int .i64 i0, .int .i64 par, .int .i64 pl, .str tx, .int .i64 i, .int .i64 k, .str s, .sl 4 []]))) := hL7.symm
    have h6l : 1 < L6.length := by rw [hL6, List.length_set]; exact h1l
    have g17 : L7[1]? = some (some (.box 9 (.agg [.int .i8 op, .int .i64 i0, .int .i64 par, .int .i64 pl, .str tx, .int .i64 i, .int .i64 k, .str s, .sl 4 []]))) := by rw [hL7, List.getElem?_set_self h6l]
    have g7 : ∀ x, 2 ≤ x → L7[x]? = L4[x]? := fun x hx => by rw [hL7, List.getElem?_set_ne (by omega), k6 x (by omega)]
    cbv
    with_reducible refine EW.of ?_
    cbv
    simp only [← List.get?Internal.eq_def]
    rw [show L7.get?Internal 1 = _ from g17]
    refine chk_iff.2 ⟨by rfl, ?_⟩
    have hres : R (.ret (.agg [.int .i8 op, .int .i64 i0, .int .i64 par, .int .i64 pl, .str tx, .int .i64 i, .int .i64 k, .str s, .sl 4 []])) L7 := by
      rw [hR]
      exact ⟨L7, d, by rw [hdd]; rfl, rfl, hdt, DT.ok.same (fun x hx => g7 x (hge2 x hx)) hd, hdn, fun _ _ => Nat.zero_le _⟩
    cbv
    exact ⟨_, L7, VSV.refl _ _ _, hres⟩
  | some p =>
    obtain ⟨nk, hnk⟩ : ∃ n, n = dks.length := ⟨_, rfl⟩
    have hcell : d.cell = .agg [.int .i64 i, .int .i64 k, .str s, .row p 4 0 nk] := by rw [hdd, hnk]; rfl
    rw [hcell]
    cbv
    simp only [← List.get?Internal.eq_def]
    rw [show L4.get?Internal 0 = _ from g0]
    refine chk_iff.2 ⟨by rfl, ?_⟩
    generalize hL6 : List.set L4 0 _ = L6
    replace hL6 : L6 = L4.set 0 (some (.box 9 (.agg [.int .i8 op, .int .i64 i0, .int .i64 par, .int .i64 pl, .str tx, .int .i64 i, .int .i64 k, .str s, .row p 4 0 nk]))) := hL6.symm
    have h0l := (List.getElem?_eq_some_iff.1 g0).1
    have h1l := (List.getElem?_eq_some_iff.1 g1).1
    have k0 : L6[0]? = some (some (.box 9 (.agg [.int .i8 op, .int .i64 i0, .int .i64 par, .int .i64 pl, .str tx, .int .i64 i, .int .i64 k, .str s, .row p 4 0 nk]))) := by rw [hL6, List.getElem?_set_self h0l]
    have k6 : ∀ x, x ≠ 0 → L6[x]? = L4[x]? := fun x hx => by rw [hL6, List.getElem?_set_ne (Ne.symm hx)]
    have k1 := (k6 1 (by decide)).trans g1
    cbv
    with_reducible refine EW.of ?_
    cbv
    simp only [← List.get?Internal.eq_def]
    rw [show L6.get?Internal 0 = _ from k0]
    cbv
    simp only [← List.get?Internal.eq_def]
    rw [show L6.get?Internal 1 = _ from k1]
    refine chk_iff.2 ⟨by rfl, ?_⟩
    generalize hL7 : List.set L6 1 _ = L7
    replace hL7 : L7 = L6.set 1 (some (.box 9 (.agg [.int .i8 op, .int .i64 i0, .int .i64 par, .int .i64 pl, .str tx, .int .i64 i, .int .i64 k, .str s, .row p 4 0 nk]))) := hL7.symm
    have h6l : 1 < L6.length := by rw [hL6, List.length_set]; exact h1l
    have g17 : L7[1]? = some (some (.box 9 (.agg [.int .i8 op, .int .i64 i0, .int .i64 par, .int .i64 pl, .str tx, .int .i64 i, .int .i64 k, .str s, .row p 4 0 nk]))) := by rw [hL7, List.getElem?_set_self h6l]
    have g7 : ∀ x, 2 ≤ x → L7[x]? = L4[x]? := fun x hx => by rw [hL7, List.getElem?_set_ne (by omega), k6 x (by omega)]
    cbv
    with_reducible refine EW.of ?_
    cbv
    simp only [← List.get?Internal.eq_def]
    rw [show L7.get?Internal 1 = _ from g17]
    refine chk_iff.2 ⟨by rfl, ?_⟩
    have hres : R (.ret (.agg [.int .i8 op, .int .i64 i0, .int .i64 par, .int .i64 pl, .str tx, .int .i64 i, .int .i64 k, .str s, .row p 4 0 nk])) L7 := by
      rw [hR]
      exact ⟨L7, d, by rw [hdd, hnk]; rfl, rfl, hdt, DT.ok.same (fun x hx => g7 x (hge2 x hx)) hd, hdn, fun _ _ => Nat.zero_le _⟩
    cbv
    exact ⟨_, L7, VSV.refl _ _ _, hres⟩
/-- The rows of a step's tree are shut. -/
theorem DT.shutS (E : Em) (op i0 par pl : Int) (tx : ByteArray) (d : DT) (L : Store) (q : Nat) (hd : d.ok L) (hn : (q :: d.foot).Nodup) (hq : L[q]? = some (some (.box 9 (stepCell op i0 par pl tx d)))) (i k : Int) (s : ByteArray) (ks : List Tree) (ht : d.tree = .node i k s ks) :
    ∃ L' : Store, (∀ K fr, VS K fr L fr L') ∧ L'.length = L.length ∧ L'[q]? = some (some (.box 9 (.agg [.int .i8 op, .int .i64 i0, .int .i64 par, .int .i64 pl, .str tx, .int .i64 i, .int .i64 k, .str s, .sl 4 (E.tree.l ks)]))) ∧ ∀ x, x ∉ q :: d.foot → L'[x]? = L[x]? := by
  obtain ⟨o, dks, rfl, hdk⟩ := DT.cell_node ht
  cases o with
  | none =>
    obtain rfl : dks = [] := hd.1
    subst hdk
    exact ⟨L, fun K fr => VS.refl K fr L, rfl, by rw [hq, treesD, E.tree.nil]; rfl, fun _ _ => rfl⟩
  | some p =>
    have hn1 : (p :: footD dks).Nodup := (List.nodup_cons.1 hn).2
    have hqn : q ∉ p :: footD dks := (List.nodup_cons.1 hn).1
    have hqp : q ≠ p := fun e => hqn (e ▸ List.mem_cons_self ..)
    obtain ⟨L1, hv, hl, hp, hx1⟩ := shutK E dks L p [] hd.2 hn1 (by rw [E.tree.nil]; exact hd.1)
    rw [List.nil_append, hdk] at hp
    have hq1 := (hx1 q hqn).trans hq
    have hlq := (List.getElem?_eq_some_iff.1 hq1).1
    have hlp := (List.getElem?_eq_some_iff.1 hp).1
    have hlen : dks.length = (E.tree.l ks).length := by rw [E.tree.len, ← hdk, treesD_len]
    refine ⟨(L1.set q (some (.box 9 (.agg [.int .i8 op, .int .i64 i0, .int .i64 par, .int .i64 pl, .str tx, .int .i64 i, .int .i64 k, .str s, .sl 4 (E.tree.l ks)])))).set p none, fun K fr => VS.trans (hv K fr) (VS.freezeS (p := p) (wd := 4) (els := E.tree.l ks) (by simp [aobj, hp, AO.norm]) (by simp) (fun o ho => ?_) (fun x o' hx ho => ?_)), by simp [hl], ?_, fun y hy => ?_⟩
    · rw [List.getElem?_set_self (by simp; exact hlp)] at ho
      cases ho
    · rw [List.getElem?_set_ne (Ne.symm hx)] at ho
      by_cases hxq : x = q
      · subst hxq
        rw [List.getElem?_set_self hlq] at ho
        cases ho
        refine ⟨_, hq1, .box 9 _ _ ⟨rfl, fun j c c' hc hc' => ?_⟩⟩
        match j, hc, hc' with
        | 0, hc, hc' => cases hc; cases hc'; exact .sub (Sub.refl _)
        | 1, hc, hc' => cases hc; cases hc'; exact .sub (Sub.refl _)
        | 2, hc, hc' => cases hc; cases hc'; exact .sub (Sub.refl _)
        | 3, hc, hc' => cases hc; cases hc'; exact .sub (Sub.refl _)
        | 4, hc, hc' => cases hc; cases hc'; exact .sub (Sub.refl _)
        | 5, hc, hc' => cases hc; cases hc'; exact .sub (Sub.refl _)
        | 6, hc, hc' => cases hc; cases hc'; exact .sub (Sub.refl _)
        | 7, hc, hc' => cases hc; cases hc'; exact .sub (Sub.refl _)
        | 8, hc, hc' => cases hc; cases hc'; exact FSub.whole hlen
        | j + 9, hc, hc' => simp [AV.cells, stepCell] at hc
      · rw [List.getElem?_set_ne (fun e => hxq e.symm)] at ho
        exact ⟨o', ho, .refl _⟩
    · rw [List.getElem?_set_ne (Ne.symm hqp), List.getElem?_set_self hlq]
    · have hyq : y ≠ q := fun e => hy (e ▸ List.mem_cons_self ..)
      have hyf : y ∉ p :: footD dks := fun h => hy (List.mem_cons_of_mem _ h)
      rw [List.getElem?_set_ne (fun e : p = y => hyf (by rw [← e]; exact List.mem_cons_self ..)), List.getElem?_set_ne (Ne.symm hyq)]
      exact hx1 y hyf
end Go.Proofs.Ytaieiigfheabfaa
