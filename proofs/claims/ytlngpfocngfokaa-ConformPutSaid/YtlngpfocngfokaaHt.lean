import Derived.Test.YtlngpfocngfokaaHs
/-! A part of the same kind put in leaves a tree that conforms, if ids, nodes and depth let it. -/
namespace Go.Proofs.Ytlngpfocngfokaa
open Go.Proofs.Ytlngpfocngfokaa.Tw
mutual
def nodesT : Tree → List Tree
  | .node i k s ks => .node i k s ks :: nodesK ks
def nodesK : List Tree → List Tree
  | [] => []
  | t :: ts => nodesT t ++ nodesK ts
end
mutual
theorem nodes_ord : ∀ (t : Tree) (d : Nat), (ordT t d).map (·.1) = nodesT t
  | .node i k s ks, d => by rw [ordT, nodesT, List.map_cons, nodes_ordK ks]
theorem nodes_ordK : ∀ (ts : List Tree) (d : Nat), (ordK ts d).map (·.1) = nodesK ts
  | [], d => rfl
  | t :: ts, d => by rw [ordK, nodesK, List.map_append, nodes_ord t, nodes_ordK ts]
end
section
variable (x : Tree) (k : Nat)
mutual
theorem putT_far : ∀ (t : Tree) (n : Nat), k < n → (putT x k t n).1 = t ∧ k < (putT x k t n).2
  | .node i kd s ks, n, h => by
    have := putK_far ks (n + 1) (by omega)
    rw [putT, if_neg (by omega)]
    exact ⟨by rw [this.1], this.2⟩
theorem putK_far : ∀ (ts : List Tree) (n : Nat), k < n → (putK x k ts n).1 = ts ∧ k < (putK x k ts n).2
  | [], n, h => ⟨rfl, h⟩
  | t :: ts, n, h => by
    have h1 := putT_far t n h
    have h2 := putK_far ts (putT x k t n).2 h1.2
    rw [putK]
    exact ⟨by rw [h1.1, h2.1], h2.2⟩
end
mutual
theorem putT_up : ∀ (t : Tree) (n : Nat), n ≤ (putT x k t n).2
  | .node i kd s ks, n => by
    have := putK_up ks (n + 1)
    rw [putT]
    split
    · exact Nat.le_succ n
    · simp only; omega
theorem putK_up : ∀ (ts : List Tree) (n : Nat), n ≤ (putK x k ts n).2
  | [], n => Nat.le_refl n
  | t :: ts, n => by
    have h1 := putT_up t n
    have h2 := putK_up ts (putT x k t n).2
    rw [putK]
    simp only
    omega
end
mutual
theorem putT_cnt : ∀ (t : Tree) (n : Nat), (putT x k t n).2 ≤ k → (putT x k t n).2 = n + (nodesT t).length
  | .node i kd s ks, n, h => by
    rw [putT] at h ⊢
    rw [nodesT, List.length_cons]
    split at h
    · simp only at h; omega
    · rename_i hn
      rw [if_neg hn]
      have := putK_cnt ks (n + 1) h
      simp only
      omega
theorem putK_cnt : ∀ (ts : List Tree) (n : Nat), (putK x k ts n).2 ≤ k → (putK x k ts n).2 = n + (nodesK ts).length
  | [], n, h => rfl
  | t :: ts, n, h => by
    rw [putK] at h ⊢
    rw [nodesK, List.length_append]
    simp only at h ⊢
    have h1 := putK_up x k ts (putT x k t n).2
    have h2 := putT_cnt t n (by omega)
    have h3 := putK_cnt ts (putT x k t n).2 h
    omega
end
def fitT (t : Tree) (n : Nat) : Prop := ∀ j v, (nodesT t)[j]? = some v → n + j = k → kindT v = kindT x
def fitK (ts : List Tree) (n : Nat) : Prop := ∀ j v, (nodesK ts)[j]? = some v → n + j = k → kindT v = kindT x
theorem fitK.head {t : Tree} {ts : List Tree} {n : Nat} (h : fitK x k (t :: ts) n) : fitT x k t n := fun j v hv e => h j v (by
  rw [nodesK, List.getElem?_append_left (List.getElem?_eq_some_iff.1 hv).1]
  exact hv) e
theorem fitK.tail {t : Tree} {ts : List Tree} {n : Nat} (h : fitK x k (t :: ts) n) : fitK x k ts (n + (nodesT t).length) := fun j v hv e => h ((nodesT t).length + j) v (by
  rw [nodesK, List.getElem?_append_right (Nat.le_add_right _ _), Nat.add_sub_cancel_left]
  exact hv) (by omega)
theorem fitT.kids {i kd : Int} {s : ByteArray} {ks : List Tree} {n : Nat} (h : fitT x k (.node i kd s ks) n) : fitK x k ks (n + 1) := fun j v hv e => h (j + 1) v (by rw [nodesT]; exact hv) (by omega)
theorem put_kind {t : Tree} {n : Nat} (h : fitT x k t n) : kindT (putT x k t n).1 = kindT t := by
  obtain ⟨i, kd, s, ks⟩ := t
  rw [putT]
  split
  · rename_i hn
    exact (h 0 (.node i kd s ks) (by rw [nodesT]; rfl) (by omega)).symm
  · rfl
theorem put_kinds : ∀ (ts : List Tree) (n : Nat), fitK x k ts n → (putK x k ts n).1.map kindT = ts.map kindT
  | [], n, h => rfl
  | t :: ts, n, h => by
    rw [putK, List.map_cons, List.map_cons, put_kind x k (h.head)]
    congr 1
    rcases Nat.lt_or_ge k (putT x k t n).2 with hk | hk
    · rw [(putK_far x k ts _ hk).1]
    · have e := putT_cnt x k t n hk
      have := put_kinds ts (putT x k t n).2 (e ▸ h.tail)
      exact this
/-- Alike, their kids left aside. -/
def like (u v : Tree) : Prop := idT u = idT v ∧ kindT u = kindT v ∧ textT u = textT v ∧ kindsT u = kindsT v
theorem like.node {g : Gra} {u v : Tree} (h : like u v) : nodeB g u = nodeB g v := by
  unfold nodeB
  rw [h.2.1, h.2.2.1, h.2.2.2]
mutual
theorem put_nodes : ∀ (t : Tree) (n : Nat), fitT x k t n → ∀ u ∈ nodesT (putT x k t n).1, (∃ v ∈ nodesT t, like u v) ∨ u ∈ nodesT x
  | .node i kd s ks, n, h, u, hu => by
    rw [putT] at hu
    split at hu
    · exact .inr hu
    · simp only [nodesT] at hu
      rcases List.mem_cons.1 hu with rfl | hu
      · refine .inl ⟨.node i kd s ks, by rw [nodesT]; exact List.mem_cons_self .., rfl, rfl, rfl, ?_⟩
        exact put_kinds x k ks (n + 1) h.kids
      · rcases put_nodesK ks (n + 1) h.kids u hu with ⟨v, hv, hl⟩ | h
        · exact .inl ⟨v, by rw [nodesT]; exact List.mem_cons_of_mem _ hv, hl⟩
        · exact .inr h
theorem put_nodesK : ∀ (ts : List Tree) (n : Nat), fitK x k ts n → ∀ u ∈ nodesK (putK x k ts n).1, (∃ v ∈ nodesK ts, like u v) ∨ u ∈ nodesT x
  | [], n, h, u, hu => by cases hu
  | t :: ts, n, h, u, hu => by
    simp only [putK, nodesK] at hu
    rcases List.mem_append.1 hu with hu | hu
    · rcases put_nodes t n h.head u hu with ⟨v, hv, hl⟩ | h
      · exact .inl ⟨v, by rw [nodesK]; exact List.mem_append_left _ hv, hl⟩
      · exact .inr h
    · rcases Nat.lt_or_ge k (putT x k t n).2 with hk | hk
      · rw [(putK_far x k ts _ hk).1] at hu
        exact .inl ⟨u, by rw [nodesK]; exact List.mem_append_right _ hu, rfl, rfl, rfl, rfl⟩
      · have e := putT_cnt x k t n hk
        rcases put_nodesK ts (putT x k t n).2 (e ▸ h.tail) u hu with ⟨v, hv, hl⟩ | h
        · exact .inl ⟨v, by rw [nodesK]; exact List.mem_append_right _ hv, hl⟩
        · exact .inr h
end
mutual
theorem put_ok (hx : x.ok) : ∀ (t : Tree) (n : Nat), t.ok → (putT x k t n).1.ok
  | .node i kd s ks, n, h => by
    rw [putT]
    split
    · exact hx
    · exact .node (by rw [putK_len]; exact h.len) (put_okK hx ks (n + 1) fun t ht => h.kid ht)
theorem put_okK (hx : x.ok) : ∀ (ts : List Tree) (n : Nat), (∀ t ∈ ts, t.ok) → ∀ u ∈ (putK x k ts n).1, u.ok
  | [], n, h, u, hu => by cases hu
  | t :: ts, n, h, u, hu => by
    simp only [putK] at hu
    rcases List.mem_cons.1 hu with rfl | hu
    · exact put_ok hx t n (h t (List.mem_cons_self ..))
    · exact put_okK hx ts _ (fun t ht => h t (List.mem_cons_of_mem _ ht)) u hu
end
end
/-- Good by itself. -/
def good (g : Gra) (u : Tree) : Prop := 1 ≤ idT u ∧ idT u ≤ 1125899906842624 ∧ nodeB g u = true
theorem fine_good {g : Gra} : ∀ {l : List (Tree × Nat)} {ids : List Int}, fine g ids l → ∀ u ∈ l.map (·.1), good g u
  | [], ids, h, u, hu => by cases hu
  | (t, d) :: l, ids, h, u, hu => by
    obtain ⟨h1, h2⟩ := h
    rw [List.map_cons] at hu
    rcases List.mem_cons.1 hu with rfl | hu
    · unfold badN at h1
      simp only [not_or] at h1
      exact ⟨by omega, by omega, by simpa using h1.2.2.2.2⟩
    · exact fine_good h2 u hu
theorem fine_mk {g : Gra} : ∀ {l : List (Tree × Nat)} {ids : List Int}, (∀ u ∈ l, u.2 ≤ 32) → (∀ u ∈ l.map (·.1), good g u) → (ids ++ idsL l).Nodup → fine g ids l
  | [], ids, _, _, _ => trivial
  | (t, d) :: l, ids, h1, h2, h3 => by
    have e : ids ++ idsL ((t, d) :: l) = (ids ++ [idT t]) ++ idsL l := by simp [idsL]
    refine ⟨fun hb => ?_, fine_mk (fun u hu => h1 u (List.mem_cons_of_mem _ hu)) (fun u hu => h2 u (List.mem_cons_of_mem _ hu)) (e ▸ h3)⟩
    have hg := h2 t (List.mem_cons_self ..)
    rcases hb with c | c | c | c | c
    · have := h1 _ (List.mem_cons_self ..); simp only at this; omega
    · have := hg.1; omega
    · have := hg.2.1; omega
    · have := (List.nodup_append.1 h3).2.2 _ c _ (List.mem_cons_self ..)
      exact this rfl
    · rw [hg.2.2] at c; cases c
theorem treeP_ok {g : Gra} {t : Tree} : (treeP g t).2 = 0 ↔ (subP g t).2 = 0 ∧ kindT t = g.root := by
  unfold treeP
  by_cases h : checkB g = true ∧ kindT t ≠ g.root
  · rw [if_pos h]
    exact ⟨fun e => absurd (show (70 : Int) = 0 from e) (by decide), fun e => absurd e.2 h.2⟩
  · rw [if_neg h]
    refine ⟨fun e => ⟨e, ?_⟩, fun e => e.1⟩
    have := (subP_ok.1 e).1
    by_cases hk : kindT t = g.root
    · exact hk
    · exact absurd ⟨this, hk⟩ h
/-- The law of putting in. -/
theorem put_conf {g : Gra} {t x v : Tree} {k dv : Nat} (h1 : (treeP g t).2 = 0) (h2 : (subP g x).2 = 0) (hk : (ordT t 1)[k]? = some (v, dv)) (hv : kindT v = kindT x) (hl : (ordT (putT x k t 0).1 1).length ≤ 200) (hd : ∀ u ∈ ordT (putT x k t 0).1 1, u.2 ≤ 32) (hn : (idsL (ordT (putT x k t 0).1 1)).Nodup) : (treeP g (putT x k t 0).1).2 = 0 := by
  obtain ⟨h1, hr⟩ := treeP_ok.1 h1
  have a1 := subP_ok.1 h1
  have a2 := subP_ok.1 h2
  have hf : fitT x k t 0 := fun j w hw e => by
    obtain rfl : j = k := by omega
    have := congrArg (fun l => l[j]?) (nodes_ord t 1)
    simp only [List.getElem?_map, hk, hw, Option.map_some, Option.some.injEq] at this
    rw [← this]
    exact hv
  refine treeP_ok.2 ⟨subP_ok.2 ⟨a1.1, hl, fine_mk hd (fun u hu => ?_) (by simpa using hn)⟩, (put_kind x k hf).trans hr⟩
  rw [nodes_ord] at hu
  rcases put_nodes x k t 0 hf u hu with ⟨w, hw, hlk⟩ | hu
  · rw [← nodes_ord t 1] at hw
    have := fine_good a1.2.2 w hw
    exact ⟨hlk.1 ▸ this.1, hlk.1 ▸ this.2.1, hlk.node ▸ this.2.2⟩
  · rw [← nodes_ord x 1] at hu
    exact fine_good a2.2.2 u hu
/-- Ids seen, as a map's entries with bare keys. -/
def entJ (ids : List Int) : Ents := ids.zipIdx.map fun x => (x.2, .int .i64 x.1, .bool true)
structure EmJ where
  l : List Int → Ents
  c : List Int → Nat
  ok : l = entJ
  okc : c = List.length
def emJ0 : EmJ := ⟨_, _, rfl, rfl⟩
theorem lk_true {k : AV} : ∀ {es : Ents}, (∀ x ∈ es, x.2.2 = .bool true) → (∃ x ∈ es, keyEq k x.2.1 = true) → lkA k es = some (.bool true)
  | [], _, ⟨x, hx, _⟩ => by cases hx
  | y :: es, h, ⟨x, hx, hk⟩ => by
    by_cases hy : keyEq k y.2.1 = true
    · unfold lkA idxA
      rw [if_pos hy]
      simp [h y (List.mem_cons_self ..)]
    · have : lkA k es = some (.bool true) := lk_true (fun z hz => h z (List.mem_cons_of_mem _ hz)) ⟨x, (List.mem_cons.1 hx).resolve_left (fun e => hy (e ▸ hk)), hk⟩
      unfold lkA at this ⊢
      unfold idxA
      rw [if_neg hy]
      cases hi : idxA k es with
      | none => rw [hi] at this; cases this
      | some j => rw [hi] at this; simpa using this
namespace EmJ
variable (H : EmJ)
theorem mem {ids : List Int} {x : Nat × AV × AV} (h : x ∈ H.l ids) : ∃ n, n ∈ ids ∧ x.2.1 = .int .i64 n ∧ x.2.2 = .bool true := by
  rw [H.ok] at h
  obtain ⟨y, hy, rfl⟩ := List.mem_map.1 h
  have := List.mem_of_getElem? (List.mem_zipIdx_iff_getElem?.1 hy)
  exact ⟨y.1, this, rfl, rfl⟩
theorem pur (ids : List Int) : PurM (H.l ids) := ⟨fun x hx => by
  obtain ⟨n, _, h1, h2⟩ := H.mem hx
  rw [h1, h2]
  exact ⟨rfl, rfl⟩⟩
theorem nil : H.l [] = [] := by rw [H.ok]; rfl
theorem cnil : H.c [] = 0 := by rw [H.okc]; rfl
theorem snoc (ids : List Int) (n : Int) : H.l (ids ++ [n]) = H.l ids ++ [(ids.length, .int .i64 n, .bool true)] := by
  rw [H.ok]
  unfold entJ
  rw [List.zipIdx_append, List.map_append]
  simp
theorem keys (ids : List Int) (n : Int) : Keys (.int .i64) (.int .i64 n) (H.l ids) := ⟨rfl, fun x hx => by
  obtain ⟨m, _, e, _⟩ := H.mem hx
  rw [e]
  rfl⟩
theorem idx {n : Int} {ids : List Int} (h : n ∉ ids) : idxA (.int .i64 n) (H.l ids) = none := idxS_none fun x hx => by
  obtain ⟨m, hm, e1, _⟩ := H.mem hx
  rw [e1]
  have : n ≠ m := fun e => h (e ▸ hm)
  simp [keyEq, this]
theorem lkN {n : Int} {ids : List Int} (h : n ∉ ids) : lkA (.int .i64 n) (H.l ids) = none := by simp [lkA, H.idx h]
theorem up {n : Int} {ids : List Int} (h : n ∉ ids) : upA (H.c ids) (.int .i64 n) (.bool true) (H.l ids) = (H.c (ids ++ [n]), H.l (ids ++ [n])) := by
  simp only [upA, H.idx h, H.snoc, H.okc, List.length_append, List.length_cons, List.length_nil]
theorem lkY {n : Int} {ids : List Int} (h : n ∈ ids) : lkA (.int .i64 n) (H.l ids) = some (.bool true) := by
  refine lk_true (fun x hx => ?_) ?_
  · obtain ⟨m, _, _, e⟩ := H.mem hx
    exact e
  · obtain ⟨j, hj⟩ := List.getElem?_of_mem h
    refine ⟨(j, .int .i64 n, .bool true), ?_, by simp [keyEq]⟩
    rw [H.ok]
    exact List.mem_map.2 ⟨(n, j), List.mem_zipIdx_iff_getElem?.2 hj, rfl⟩
end EmJ
end Go.Proofs.Ytlngpfocngfokaa
