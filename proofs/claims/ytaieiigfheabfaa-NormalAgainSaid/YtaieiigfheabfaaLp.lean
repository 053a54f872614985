import Derived.Test.YtaieiigfheabfaaBd
import Derived.Test.YtaieiigfheabfaaTw7
/-! Representations that are not reckoned out. -/
namespace Go.Proofs.Ytaieiigfheabfaa
open Go.Proofs.Ytaieiigfheabfaa.Tw
/-- Values of a kind, and rows of them. -/
structure Emb (α : Type) where
  v : α → AV
  l : List α → List AV
  ok : ∀ xs, l xs = xs.map v
  pur : ∀ x, (v x).pur = true
namespace Emb
variable {α : Type} (E : Emb α)
theorem len (xs : List α) : (E.l xs).length = xs.length := by rw [E.ok]; simp
theorem get {xs : List α} {k : Nat} {x : α} (h : xs[k]? = some x) : (E.l xs)[k]? = some (E.v x) := by rw [E.ok]; simp [h]
theorem purL (xs : List α) : Tw.purL (E.l xs) = true := purL_of (by
  rw [E.ok]
  intro a ha
  obtain ⟨x, _, rfl⟩ := List.mem_map.1 ha
  exact E.pur x)
theorem Pur (xs : List α) : Tw.Pur (E.l xs) := ⟨E.purL xs⟩
theorem nil : E.l [] = [] := by rw [E.ok]; rfl
theorem app (xs ys : List α) : E.l (xs ++ ys) = E.l xs ++ E.l ys := by simp only [E.ok, List.map_append]
theorem cons (x : α) (ys : List α) : E.l (x :: ys) = E.v x :: E.l ys := by simp only [E.ok, List.map_cons]
theorem take (xs : List α) (n : Nat) : (E.l xs).take n = E.l (xs.take n) := by simp only [E.ok, List.map_take]
theorem drop (xs : List α) (n : Nat) : (E.l xs).drop n = E.l (xs.drop n) := by simp only [E.ok, List.map_drop]
theorem cut {xs : List α} {n : Nat} (h : n = xs.length) : Tw.Cut (E.l xs) 0 n (E.l xs) := ⟨by rw [List.drop_zero, E.take, h, List.take_length], by rw [E.len, h]; omega⟩
theorem cut' {xs ys : List α} {n : Nat} (h : n ≤ xs.length) (hy : xs.take n = ys) : Tw.Cut (E.l xs) 0 n (E.l ys) := ⟨by rw [List.drop_zero, E.take, hy], by rw [E.len]; omega⟩
end Emb
/-- The kinds of this program. -/
structure Em where
  int : Emb Int
  tree : Emb Tree
  spot : Emb (Tree × Nat)
  ok_int : int.v = fun i => .int .i64 i
  ok_tree : tree.v = Tree.av
  ok_spot : spot.v = Ytaieiigfheabfaa.spot
def em0 : Em where
  int := ⟨_, _, fun _ => rfl, fun _ => rfl⟩
  tree := ⟨Tree.av, _, fun _ => rfl, Tree.av_pur⟩
  spot := ⟨spot, _, fun _ => rfl, spot_pur⟩
  ok_int := rfl
  ok_tree := rfl
  ok_spot := rfl
namespace Em
variable (E : Em)
theorem ints (l : List Int) : ints l = E.int.l l := by rw [E.int.ok, E.ok_int]; rfl
theorem trees (l : List Tree) : avs l = E.tree.l l := by rw [E.tree.ok, E.ok_tree, avs_map]
theorem av (t : Tree) : t.av = E.tree.v t := by rw [E.ok_tree]
theorem spots (l : List (Tree × Nat)) : spots l = E.spot.l l := by rw [E.spot.ok, E.ok_spot]; rfl
theorem iv (i : Int) : E.int.v i = .int .i64 i := by rw [E.ok_int]
theorem node (i k : Int) (s : ByteArray) (ks : List Tree) : E.tree.v (.node i k s ks) = .agg [.int .i64 i, .int .i64 k, .str s, .sl 4 (E.tree.l ks)] := by rw [← E.av, Tree.av, E.trees]
theorem spotv (i k : Int) (s : ByteArray) (ks : List Tree) (d : Nat) : E.spot.v (.node i k s ks, d) = .agg [.int .i64 i, .int .i64 k, .str s, .sl 4 (E.tree.l ks), .int .i64 d] := by
  rw [E.ok_spot]
  simp only [Ytaieiigfheabfaa.spot, E.trees]
theorem geti {l : List Int} {k : Nat} {x : Int} (h : l[k]? = some x) : (E.int.l l)[k]? = some (.int .i64 x) := by rw [E.int.get h, E.iv]
theorem getn {l : List Tree} {j : Nat} {i k : Int} {s : ByteArray} {ks : List Tree} (h : l[j]? = some (.node i k s ks)) : (E.tree.l l)[j]? = some (.agg [.int .i64 i, .int .i64 k, .str s, .sl 4 (E.tree.l ks)]) := by rw [E.tree.get h, E.node]
theorem gets {l : List (Tree × Nat)} {j d : Nat} {i k : Int} {s : ByteArray} {ks : List Tree} (h : l[j]? = some (.node i k s ks, d)) : (E.spot.l l)[j]? = some (.agg [.int .i64 i, .int .i64 k, .str s, .sl 4 (E.tree.l ks), .int .i64 d]) := by rw [E.spot.get h, E.spotv]
end Em
end Go.Proofs.Ytaieiigfheabfaa
