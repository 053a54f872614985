import Derived.Test.YtpjibokaeefhiaaXa
/-! Chains of rows that a call leaves, at other places. -/
namespace Go.Proofs.Ytpjibokaeefhiaa
open Go.Proofs.Ytpjibokaeefhiaa.Tw
theorem renL_set (π : List Nat) : ∀ (l : List AV) (i : Nat) (a : AV), renL π (l.set i a) = (renL π l).set i (a.ren π)
  | [], i, a => rfl
  | x :: l, 0, a => rfl
  | x :: l, i + 1, a => by simp only [List.set_cons_succ, renL, renL_set π l i a]
theorem merge_nil (L M : Store) (π' : List Nat) : mergeL L [] π' M = L ++ M.map (·.map (·.ren π')) := by
  unfold mergeL
  congr 1
  · refine List.ext_getElem? fun q => ?_
    rw [List.getElem?_map]
    rcases Nat.lt_or_ge q L.length with h | h
    · rw [List.getElem?_range h, List.getElem?_eq_getElem h]
      simp [List.idxOf?, List.getElem?_eq_getElem h]
    · rw [List.getElem?_eq_none (by simpa using h), List.getElem?_eq_none h]
      rfl
theorem news_get (L M : Store) {q : Nat} (h : q < M.length) : (news L [] M).getD q 0 = L.length + q := by
  unfold news
  simp [List.getD_eq_getElem?_getD, h]
theorem Sp.lt {E : Em} {L : Store} : ∀ {ps : List Nat} {ks : List Tree} {path : List Nat}, Sp E L ps ks path → ∀ p ∈ ps, p < L.length
  | [p], ks, [i], hs, q, hq => by
    rw [List.mem_singleton.1 hq]
    exact (List.getElem?_eq_some_iff.1 hs.1).1
  | p :: q :: ps, ks, i :: j :: path, ⟨ki, kk, s, kks, h1, h2, h3⟩, x, hx => by
    rcases List.mem_cons.1 hx with rfl | hx
    · exact (List.getElem?_eq_some_iff.1 h2).1
    · exact Sp.lt h3 x hx
  | [], _, _, hs, _, _ => hs.elim
  | [_], _, [], hs, _, _ => hs.elim
  | [_], _, _ :: _ :: _, hs, _, _ => hs.elim
  | _ :: _ :: _, _, [], hs, _, _ => hs.elim
  | _ :: _ :: _, _, [_], hs, _, _ => hs.elim
theorem Sp.moved {E : Em} {L M : Store} {π : List Nat} (hπ : ∀ q, q < M.length → π.getD q 0 = L.length + q) : ∀ {ps : List Nat} {ks : List Tree} {path : List Nat}, Sp E M ps ks path → Sp E (L ++ M.map (·.map (·.ren π))) (ps.map (L.length + ·)) ks path
  | [p], ks, [i], hs => by
    refine ⟨?_, hs.2⟩
    rw [List.getElem?_append_right (Nat.le_add_right _ _), Nat.add_sub_cancel_left, List.getElem?_map, hs.1]
    simp only [Option.map_some, AO.ren, renL_pur π _ (E.tree.purL ks)]
  | p :: q :: ps, ks, i :: j :: path, ⟨ki, kk, s, kks, h1, h2, h3⟩ => by
    refine ⟨ki, kk, s, kks, h1, ?_, Sp.moved hπ h3⟩
    have hq := Sp.lt h3 q (List.mem_cons_self ..)
    rw [List.getElem?_append_right (Nat.le_add_right _ _), Nat.add_sub_cancel_left, List.getElem?_map, h2]
    simp only [Option.map_some, AO.ren, renL_set, renL_pur π _ (E.tree.purL ks), AV.ren, renL, hπ q hq]
  | [], _, _, hs => hs.elim
  | [_], _, [], hs => hs.elim
  | [_], _, _ :: _ :: _, hs => hs.elim
  | _ :: _ :: _, _, [], hs => hs.elim
  | _ :: _ :: _, _, [_], hs => hs.elim
/-- A call leaves a node whose kids are a chain of rows. -/
def spR (E : Em) (i k : Int) (s : ByteArray) (ks : List Tree) (path : List Nat) (L : Store) : AEnd → Store → Prop := fun x L' => ∃ M p ps, x = .ret (.agg [.int .i64 i, .int .i64 k, .str s, .row p 4 0 ks.length]) ∧ L' = L ++ M ∧ Sp E L' (p :: ps) ks path ∧ (p :: ps).Nodup ∧ ∀ q ∈ p :: ps, L.length ≤ q
theorem spR.call {E : Em} {P : Program} {f : FuncId} {args : List AV} {i k : Int} {s : ByteArray} {ks : List Tree} {path : List Nat} (h : TC P f args [] (spR E i k s ks path [])) (hp : purL args = true) (L : Store) : TC P f args L (spR E i k s ks path L) := by
  refine ⟨TCall.frame (L := L) [] h.h List.nodup_nil rfl (fun i p hi => by simp at hi) rfl (fun j a a' ha ha' => ?_) fun x L' _ ⟨M, p, ps, hx, hL, hs, hn, _⟩ => ?_⟩
  · rw [ha] at ha'
    cases ha'
    exact Rn.pure (purL_mem hp (List.mem_of_getElem? ha))
  · obtain rfl : L' = M := hL
    subst hx
    have hπ : ∀ q, q < L'.length → (news L [] L').getD q 0 = L.length + q := fun q hq => news_get L L' hq
    have hp0 := Sp.lt hs p (List.mem_cons_self ..)
    refine ⟨L'.map (·.map (·.ren (news L [] L'))), L.length + p, ps.map (L.length + ·), ?_, merge_nil .., ?_, ?_, fun q hq => ?_⟩
    · simp only [AEnd.ren, AV.ren, renL, hπ p hp0]
    · rw [merge_nil]
      exact Sp.moved hπ hs
    · show ((p :: ps).map (L.length + ·)).Nodup
      exact List.pairwise_map.2 (hn.imp fun hab e => hab (Nat.add_left_cancel e))
    · obtain ⟨z, _, rfl⟩ := List.mem_map.1 (show q ∈ (p :: ps).map (L.length + ·) from hq)
      omega
end Go.Proofs.Ytpjibokaeefhiaa
