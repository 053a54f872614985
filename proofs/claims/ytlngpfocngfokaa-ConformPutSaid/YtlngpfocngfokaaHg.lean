import Derived.Test.YtlngpfocngfokaaHf
/-! Does a subtree conform? -/
namespace Go.Proofs.Ytlngpfocngfokaa
open Go.Proofs.Ytlngpfocngfokaa.Tw
/-- Ids seen, as a map's entries. -/
def entI (ids : List Int) : Ents := ids.zipIdx.map fun x => (x.2, .agg [.int .i64 x.1], .bool true)
structure EmI where
  l : List Int → Ents
  c : List Int → Nat
  ok : l = entI
  okc : c = List.length
def emI0 : EmI := ⟨_, _, rfl, rfl⟩
namespace EmI
variable (H : EmI)
theorem mem {ids : List Int} {x : Nat × AV × AV} (h : x ∈ H.l ids) : ∃ n, n ∈ ids ∧ x.2.1 = .agg [.int .i64 n] ∧ x.2.2 = .bool true := by
  rw [H.ok] at h
  obtain ⟨y, hy, rfl⟩ := List.mem_map.1 h
  have := List.mem_of_getElem? (List.mem_zipIdx_iff_getElem?.1 hy)
  exact ⟨y.1, this, rfl, rfl⟩
theorem pur (ids : List Int) : PurM (H.l ids) := ⟨fun x hx => by
  obtain ⟨n, _, h1, h2⟩ := H.mem hx
  rw [h1, h2]
  exact ⟨rfl, rfl⟩⟩
theorem upto (ids : List Int) (n : Nat) : ((H.l ids).all fun x => x.2.1.upto n && x.2.2.upto n) = true := List.all_eq_true.2 fun x hx => by
  obtain ⟨n, _, h1, h2⟩ := H.mem hx
  rw [h1, h2]
  rfl
theorem nil : H.l [] = [] := by rw [H.ok]; rfl
theorem cnil : H.c [] = 0 := by rw [H.okc]; rfl
theorem snoc (ids : List Int) (n : Int) : H.l (ids ++ [n]) = H.l ids ++ [(ids.length, .agg [.int .i64 n], .bool true)] := by
  rw [H.ok]
  unfold entI
  rw [List.zipIdx_append, List.map_append]
  simp
theorem apart {ids : List Int} (h : ids.Nodup) : (H.l ids).Pairwise fun x y => keyEq x.2.1 y.2.1 = false := by
  rw [H.ok]
  unfold entI
  rw [List.pairwise_map, List.pairwise_iff_getElem]
  intro i j hi hj hij
  have := List.pairwise_iff_getElem.1 h i j (by simpa using hi) (by simpa using hj) hij
  simp [keyEq, this]
theorem idx (n : Int) : ∀ ids : List Int, n ∉ ids → idxA (.agg [.int .i64 n]) (H.l ids) = none := fun ids h => idxS_none fun x hx => by
  obtain ⟨m, hm, e1, _⟩ := H.mem hx
  rw [e1]
  have : n ≠ m := fun e => h (e ▸ hm)
  simp [keyEq, this]
theorem lkN {n : Int} {ids : List Int} (h : n ∉ ids) : lkA (.agg [.int .i64 n]) (H.l ids) = none := by simp [lkA, H.idx n ids h]
theorem up {n : Int} {ids : List Int} (h : n ∉ ids) : upA (H.c ids) (.agg [.int .i64 n]) (.bool true) (H.l ids) = (H.c (ids ++ [n]), H.l (ids ++ [n])) := by
  simp only [upA, H.idx n ids h, H.snoc, H.okc, List.length_append, List.length_cons, List.length_nil]
theorem keys {ids : List Int} {n : Int} (hr : ∀ m ∈ ids, 1 ≤ m ∧ m ≤ 1125899906842624) (hd : ids.Nodup) (h1 : 1 ≤ n) (h2 : n ≤ 1125899906842624) : KeysS Try.prog 86 (.agg [.int .i64 n]) (H.l ids) := by
  have wf : ∀ m : Int, 1 ≤ m → m ≤ 1125899906842624 → Tw.keyS Try.prog 86 (.agg [.int .i64 m]) := fun m h1 h2 => by
    obtain ⟨l, hl⟩ := keyOf86 (n := m) (by simp [Lit.wf, IntKind.min, IntKind.max, IntKind.signed, IntKind.bits]; omega)
    exact ⟨m, l, rfl, hl⟩
  refine ⟨keyed86, wf n h1 h2, fun x hx => ?_, H.apart hd⟩
  obtain ⟨m, hm, e1, _⟩ := H.mem hx
  rw [e1]
  exact wf m (hr m hm).1 (hr m hm).2
theorem lkY {n : Int} {ids : List Int} (hr : ∀ m ∈ ids, 1 ≤ m ∧ m ≤ 1125899906842624) (hd : ids.Nodup) (h : n ∈ ids) : lkA (.agg [.int .i64 n]) (H.l ids) = some (.bool true) := by
  have hk := H.keys hr hd (hr n h).1 (hr n h).2
  obtain ⟨j, hj⟩ := List.getElem?_of_mem h
  have hx : (H.l ids)[j]? = some (j, .agg [.int .i64 n], .bool true) := by
    rw [H.ok]
    unfold entI
    rw [List.getElem?_map, List.getElem?_zipIdx, hj]
    simp
  have hi := idxS_some hk.one hk.all hk.apart hx (by simp [keyEq])
  simp [lkA, hi, hx]
end EmI
end Go.Proofs.Ytlngpfocngfokaa
