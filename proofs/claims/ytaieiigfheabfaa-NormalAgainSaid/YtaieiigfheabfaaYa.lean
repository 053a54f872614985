import Derived.Test.YtaieiigfheabfaaLp
import Derived.Test.YtaieiigfheabfaaTw12
/-! Trees of ours: each row of kids is a row of ours, or there is none. -/
namespace Go.Proofs.Ytaieiigfheabfaa
open Go.Proofs.Ytaieiigfheabfaa.Tw
inductive DT where
  | node (i k : Int) (s : ByteArray) (o : Option Nat) (ks : List DT)
mutual
def DT.tree : DT → Tree
  | .node i k s _ ks => .node i k s (treesD ks)
def treesD : List DT → List Tree
  | [] => []
  | d :: ds => d.tree :: treesD ds
end
theorem treesD_map : ∀ ks : List DT, treesD ks = ks.map DT.tree
  | [] => rfl
  | d :: ds => by rw [treesD, treesD_map ds]; rfl
theorem treesD_len (ks : List DT) : (treesD ks).length = ks.length := by rw [treesD_map, List.length_map]
def kidAV (n : Nat) : Option Nat → AV
  | none => .sl 4 []
  | some p => .row p 4 0 n
def DT.cell : DT → AV
  | .node i k s o ks => .agg [.int .i64 i, .int .i64 k, .str s, kidAV ks.length o]
mutual
def DT.foot : DT → List Nat
  | .node _ _ _ o ks => o.toList ++ footD ks
def footD : List DT → List Nat
  | [] => []
  | d :: ds => d.foot ++ footD ds
end
/-- The row of kids. -/
def rowD (L : Store) (ks : List DT) : Option Nat → Prop
  | none => ks = []
  | some p => L[p]? = some (some (.arr 4 (ks.map DT.cell)))
mutual
def DT.ok (L : Store) : DT → Prop
  | .node _ _ _ o ks => rowD L ks o ∧ oksD L ks
def oksD (L : Store) : List DT → Prop
  | [] => True
  | d :: ds => d.ok L ∧ oksD L ds
end
theorem footD_app : ∀ ks ds : List DT, footD (ks ++ ds) = footD ks ++ footD ds
  | [], ds => rfl
  | d :: ks, ds => by simp only [List.cons_append, footD, footD_app ks ds, List.append_assoc]
theorem oksD_app {L : Store} : ∀ {ks ds : List DT}, oksD L (ks ++ ds) ↔ oksD L ks ∧ oksD L ds
  | [], ds => by simp [oksD]
  | d :: ks, ds => by simp only [List.cons_append, oksD, oksD_app (ks := ks) (ds := ds), and_assoc]
theorem treesD_app (ks ds : List DT) : treesD (ks ++ ds) = treesD ks ++ treesD ds := by simp only [treesD_map, List.map_append]
theorem foot_mem {x : Nat} {d : DT} : ∀ {ks : List DT}, d ∈ ks → x ∈ d.foot → x ∈ footD ks
  | e :: ks, h, hx => by
    rw [footD, List.mem_append]
    rcases List.mem_cons.1 h with rfl | h
    · exact .inl hx
    · exact .inr (foot_mem h hx)
theorem oks_mem {L : Store} {d : DT} : ∀ {ks : List DT}, d ∈ ks → oksD L ks → d.ok L
  | e :: ks, h, hx => by
    rcases List.mem_cons.1 h with rfl | h
    · exact hx.1
    · exact oks_mem h hx.2
theorem rowD.same {L L' : Store} {ks : List DT} {o : Option Nat} (h : ∀ p ∈ o.toList, L'[p]? = L[p]?) (hr : rowD L ks o) : rowD L' ks o := by
  cases o with
  | none => exact hr
  | some p => exact (h p (by simp)).trans hr
mutual
theorem DT.ok.same {L L' : Store} : ∀ {d : DT}, (∀ p ∈ d.foot, L'[p]? = L[p]?) → d.ok L → d.ok L'
  | .node i k s o ks, h, hd => ⟨rowD.same (fun p hp => h p (List.mem_append_left _ hp)) hd.1, oksD.same (fun p hp => h p (List.mem_append_right _ hp)) hd.2⟩
theorem oksD.same {L L' : Store} : ∀ {ks : List DT}, (∀ p ∈ footD ks, L'[p]? = L[p]?) → oksD L ks → oksD L' ks
  | [], _, _ => trivial
  | d :: ds, h, hd => ⟨DT.ok.same (fun p hp => h p (List.mem_append_left _ hp)) hd.1, oksD.same (fun p hp => h p (List.mem_append_right _ hp)) hd.2⟩
end
mutual
theorem DT.ok.lt {L : Store} : ∀ {d : DT}, d.ok L → ∀ p ∈ d.foot, p < L.length
  | .node i k s o ks, hd, p, hp => by
    rcases List.mem_append.1 hp with hp | hp
    · cases o with
      | none => simp at hp
      | some q =>
        obtain rfl : p = q := by simpa using hp
        exact (List.getElem?_eq_some_iff.1 hd.1).1
    · exact oksD.lt hd.2 p hp
theorem oksD.lt {L : Store} : ∀ {ks : List DT}, oksD L ks → ∀ p ∈ footD ks, p < L.length
  | [], _, p, hp => by simp [footD] at hp
  | d :: ds, hd, p, hp => by
    rcases List.mem_append.1 hp with hp | hp
    · exact DT.ok.lt hd.1 p hp
    · exact oksD.lt hd.2 p hp
end
mutual
/-- All rows of a tree of ours, to which a row of ours leads, are shut. -/
theorem DT.shut (E : Em) : ∀ (d : DT) (L : Store) (q : Nat) (es : List AV) (ix : Nat), d.ok L → (q :: d.foot).Nodup → L[q]? = some (some (.arr 4 es)) → es[ix]? = some d.cell → ∃ L' : Store, (∀ K fr, VS K fr L fr L') ∧ L'.length = L.length ∧ L'[q]? = some (some (.arr 4 (es.set ix (E.tree.v d.tree)))) ∧ ∀ x, x ∉ q :: d.foot → L'[x]? = L[x]?
  | .node i k s none ks, L, q, es, ix, hd, hn, hq, hx => by
    obtain rfl : ks = [] := hd.1
    refine ⟨L, fun K fr => VS.refl K fr L, rfl, ?_, fun _ _ => rfl⟩
    rw [hq, show E.tree.v (DT.node i k s none []).tree = (DT.node i k s none []).cell from by rw [DT.tree, treesD, E.node, E.tree.nil]; rfl]
    congr 3
    exact (List.ext_getElem? fun y => by
      by_cases hy : ix = y
      · subst hy; rw [List.getElem?_set_self (List.getElem?_eq_some_iff.1 hx).1, hx]
      · rw [List.getElem?_set_ne hy]).symm
  | .node i k s (some p) ks, L, q, es, ix, hd, hn, hq, hx => by
    have hn1 : (p :: footD ks).Nodup := (List.nodup_cons.1 hn).2
    have hqn : q ∉ p :: footD ks := (List.nodup_cons.1 hn).1
    have hqp : q ≠ p := fun e => hqn (e ▸ List.mem_cons_self ..)
    obtain ⟨L1, hv, hl, hp, hx1⟩ := shutK E ks L p [] hd.2 hn1 (by rw [E.tree.nil]; exact hd.1)
    rw [List.nil_append] at hp
    have hq1 := (hx1 q hqn).trans hq
    have hlq := (List.getElem?_eq_some_iff.1 hq1).1
    have hli := (List.getElem?_eq_some_iff.1 hx).1
    refine ⟨(L1.set q (some (.arr 4 (es.set ix (E.tree.v (.node i k s (treesD ks))))))).set p none, fun K fr => VS.trans (hv K fr) (VS.freezeIn hqp hp hq1 (by simp) fun y e e' he he' => ?_), by simp [hl], ?_, fun y hy => ?_⟩
    · by_cases hyx : ix = y
      · subst hyx
        rw [List.getElem?_set_self hli] at he'
        cases he'
        rw [hx] at he
        cases he
        rw [E.node]
        refine ⟨rfl, fun j c c' hc hc' => ?_⟩
        match j, hc, hc' with
        | 0, hc, hc' => cases hc; cases hc'; exact .sub (Sub.refl _)
        | 1, hc, hc' => cases hc; cases hc'; exact .sub (Sub.refl _)
        | 2, hc, hc' => cases hc; cases hc'; exact .sub (Sub.refl _)
        | 3, hc, hc' => cases hc; cases hc'; exact FSub.whole (by rw [E.tree.len, treesD_len])
        | j + 4, hc, hc' => simp [AV.cells, DT.cell] at hc
      · rw [List.getElem?_set_ne hyx] at he'
        rw [he] at he'
        cases he'
        exact FSubE.refl ..
    · rw [List.getElem?_set_ne (Ne.symm hqp), List.getElem?_set_self hlq]
      rfl
    · have hyq : y ≠ q := fun e => hy (e ▸ List.mem_cons_self ..)
      have hyf : y ∉ p :: footD ks := fun h => hy (List.mem_cons_of_mem _ h)
      rw [List.getElem?_set_ne (fun e : p = y => hyf (by rw [← e]; exact List.mem_cons_self ..)), List.getElem?_set_ne (Ne.symm hyq)]
      exact hx1 y hyf
theorem shutK (E : Em) : ∀ (ks : List DT) (L : Store) (p : Nat) (pre : List Tree), oksD L ks → (p :: footD ks).Nodup → L[p]? = some (some (.arr 4 (E.tree.l pre ++ ks.map DT.cell))) → ∃ L' : Store, (∀ K fr, VS K fr L fr L') ∧ L'.length = L.length ∧ L'[p]? = some (some (.arr 4 (E.tree.l (pre ++ treesD ks)))) ∧ ∀ x, x ∉ p :: footD ks → L'[x]? = L[x]?
  | [], L, p, pre, _, _, hp => ⟨L, fun K fr => VS.refl K fr L, rfl, by rw [hp, treesD, List.map_nil, List.append_nil, List.append_nil], fun _ _ => rfl⟩
  | d :: ds, L, p, pre, hd, hn, hp => by
    have hn0 := List.nodup_cons.1 hn
    have hn2 := List.nodup_append.1 hn0.2
    obtain ⟨L1, hv1, hl1, hp1, hx1⟩ := DT.shut E d L p _ pre.length hd.1 (List.nodup_cons.2 ⟨fun h => hn0.1 (List.mem_append_left _ h), hn2.1⟩) hp (by rw [List.getElem?_append_right (by rw [E.tree.len]; exact Nat.le_refl _), E.tree.len, Nat.sub_self]; rfl)
    have hds : oksD L1 ds := oksD.same (fun x hx => hx1 x fun h => by
      rcases List.mem_cons.1 h with rfl | h
      · exact hn0.1 (List.mem_append_right _ hx)
      · exact hn2.2.2 x h x hx rfl) hd.2
    obtain ⟨L2, hv2, hl2, hp2, hx2⟩ := shutK E ds L1 p (pre ++ [d.tree]) hds (List.nodup_cons.2 ⟨fun h => hn0.1 (List.mem_append_right _ h), hn2.2.1⟩) (by
      rw [hp1, List.set_append_right _ _ (by rw [E.tree.len]; exact Nat.le_refl _), E.tree.len, Nat.sub_self, E.tree.app, E.tree.cons, E.tree.nil, List.append_assoc]
      rfl)
    refine ⟨L2, fun K fr => VS.trans (hv1 K fr) (hv2 K fr), hl2.trans hl1, by rw [hp2, treesD, List.append_assoc]; rfl, fun x hx => ?_⟩
    have h1 : x ∉ p :: footD ds := fun h => hx (by
      rcases List.mem_cons.1 h with rfl | h
      · exact List.mem_cons_self ..
      · exact List.mem_cons_of_mem _ (List.mem_append_right _ h))
    have h2 : x ∉ p :: d.foot := fun h => hx (by
      rcases List.mem_cons.1 h with rfl | h
      · exact List.mem_cons_self ..
      · exact List.mem_cons_of_mem _ (List.mem_append_left _ h))
    exact (hx2 x h1).trans (hx1 x h2)
end
mutual
/-- A tree of ours at places that lie n further on. -/
def DT.sh (n : Nat) : DT → DT
  | .node i k s o ks => .node i k s (o.map (n + ·)) (shD n ks)
def shD (n : Nat) : List DT → List DT
  | [] => []
  | d :: ds => d.sh n :: shD n ds
end
theorem shD_map (n : Nat) : ∀ ks : List DT, shD n ks = ks.map (DT.sh n)
  | [] => rfl
  | d :: ds => by rw [shD, shD_map n ds]; rfl
mutual
theorem DT.sh_tree (n : Nat) : ∀ d : DT, (d.sh n).tree = d.tree
  | .node i k s o ks => by rw [DT.sh, DT.tree, DT.tree, shD_tree n ks]
theorem shD_tree (n : Nat) : ∀ ks : List DT, treesD (shD n ks) = treesD ks
  | [] => rfl
  | d :: ds => by rw [shD, treesD, treesD, DT.sh_tree n d, shD_tree n ds]
end
mutual
theorem DT.sh_foot (n : Nat) : ∀ d : DT, (d.sh n).foot = d.foot.map (n + ·)
  | .node i k s o ks => by
    rw [DT.sh, DT.foot, DT.foot, shD_foot n ks, List.map_append]
    cases o <;> rfl
theorem shD_foot (n : Nat) : ∀ ks : List DT, footD (shD n ks) = (footD ks).map (n + ·)
  | [] => rfl
  | d :: ds => by rw [shD, footD, footD, DT.sh_foot n d, shD_foot n ds, List.map_append]
end
theorem DT.sh_cell {n m : Nat} {π : List Nat} (hπ : ∀ q, q < m → π.getD q 0 = n + q) (d : DT) (h : ∀ p ∈ d.foot, p < m) : (d.sh n).cell = d.cell.ren π := by
  obtain ⟨i, k, s, o, ks⟩ := d
  have hl : (shD n ks).length = ks.length := by rw [shD_map, List.length_map]
  cases o with
  | none => simp only [DT.sh, DT.cell, AV.ren, renL, kidAV, Option.map_none]
  | some p =>
    have hp := hπ p (h p (by simp [DT.foot]))
    simp only [DT.sh, DT.cell, AV.ren, renL, kidAV, Option.map_some, hl, hp]
theorem cells_ren {n m : Nat} {π : List Nat} (hπ : ∀ q, q < m → π.getD q 0 = n + q) : ∀ (ks : List DT), (∀ p ∈ footD ks, p < m) → (shD n ks).map DT.cell = renL π (ks.map DT.cell)
  | [], _ => rfl
  | d :: ds, h => by
    rw [shD, List.map_cons, List.map_cons, renL, DT.sh_cell hπ d fun p hp => h p (List.mem_append_left _ hp), cells_ren hπ ds fun p hp => h p (List.mem_append_right _ hp)]
mutual
theorem DT.moved {L M : Store} {π : List Nat} (hπ : ∀ q, q < M.length → π.getD q 0 = L.length + q) : ∀ {d : DT}, d.ok M → (d.sh L.length).ok (L ++ M.map (·.map (·.ren π)))
  | .node i k s o ks, hd => by
    refine ⟨?_, movedD hπ hd.2⟩
    cases o with
    | none =>
      obtain rfl : ks = [] := hd.1
      rfl
    | some p =>
      show (L ++ M.map (·.map (·.ren π)))[L.length + p]? = _
      rw [List.getElem?_append_right (Nat.le_add_right _ _), Nat.add_sub_cancel_left, List.getElem?_map, show M[p]? = _ from hd.1]
      simp only [Option.map_some, AO.ren, cells_ren hπ ks fun q hq => oksD.lt hd.2 q hq]
theorem movedD {L M : Store} {π : List Nat} (hπ : ∀ q, q < M.length → π.getD q 0 = L.length + q) : ∀ {ks : List DT}, oksD M ks → oksD (L ++ M.map (·.map (·.ren π))) (shD L.length ks)
  | [], _ => trivial
  | d :: ds, hd => ⟨DT.moved hπ hd.1, movedD hπ hd.2⟩
end
theorem mergeN (L M : Store) (π' : List Nat) : mergeL L [] π' M = L ++ M.map (·.map (·.ren π')) := by
  unfold mergeL
  congr 1
  · refine List.ext_getElem? fun q => ?_
    rw [List.getElem?_map]
    rcases Nat.lt_or_ge q L.length with h | h
    · rw [List.getElem?_range h, List.getElem?_eq_getElem h]
      simp [List.idxOf?, List.getElem?_eq_getElem h]
    · rw [List.getElem?_eq_none (by simpa using h), List.getElem?_eq_none h]
      rfl
theorem newsN (L M : Store) {q : Nat} (h : q < M.length) : (news L [] M).getD q 0 = L.length + q := by
  unfold news
  simp [List.getD_eq_getElem?_getD, h]
/-- A call leaves a tree of ours. -/
def dR (t : Tree) (L : Store) : AEnd → Store → Prop := fun x L' => ∃ (M : Store) (d : DT), x = .ret d.cell ∧ L' = L ++ M ∧ d.tree = t ∧ d.ok L' ∧ d.foot.Nodup ∧ ∀ q ∈ d.foot, L.length ≤ q
theorem dR.call {P : Program} {f : FuncId} {args : List AV} {t : Tree} (h : TC P f args [] (dR t [])) (hp : purL args = true) (L : Store) : TC P f args L (dR t L) := by
  refine ⟨TCall.frame (L := L) [] h.h List.nodup_nil rfl (fun i p hi => by simp at hi) rfl (fun j a a' ha ha' => ?_) fun x L' _ ⟨M, d, hx, hL, ht, hs, hn, _⟩ => ?_⟩
  · rw [ha] at ha'
    cases ha'
    exact Rn.pure (purL_mem hp (List.mem_of_getElem? ha))
  · obtain rfl : L' = M := hL
    subst hx
    have hπ : ∀ q, q < L'.length → (news L [] L').getD q 0 = L.length + q := fun q hq => newsN L L' hq
    refine ⟨L'.map (·.map (·.ren (news L [] L'))), d.sh L.length, ?_, mergeN .., (DT.sh_tree _ d).trans ht, ?_, ?_, fun q hq => ?_⟩
    · rw [DT.sh_cell hπ d (DT.ok.lt hs)]
      rfl
    · rw [mergeN]
      exact DT.moved hπ hs
    · rw [DT.sh_foot]
      exact List.pairwise_map.2 (hn.imp fun hab e => hab (Nat.add_left_cancel e))
    · rw [DT.sh_foot] at hq
      obtain ⟨z, _, rfl⟩ := List.mem_map.1 hq
      omega
end Go.Proofs.Ytaieiigfheabfaa
