import Derived.Test.YtaieiigfheabfaaBa
/-! Trees as abstract values; the walk of a tree. -/
namespace Go.Proofs.Ytaieiigfheabfaa
open Go.Proofs.Ytaieiigfheabfaa.Tw
inductive Tree where
  | node (id kind : Int) (text : ByteArray) (kids : List Tree)
  deriving Inhabited
mutual
def Tree.av : Tree → AV
  | .node i k s ks => .agg [.int .i64 i, .int .i64 k, .str s, .sl 4 (avs ks)]
def avs : List Tree → List AV
  | [] => []
  | t :: ts => t.av :: avs ts
end
theorem avs_map : ∀ ts : List Tree, avs ts = ts.map Tree.av
  | [] => rfl
  | t :: ts => by rw [avs, avs_map ts]; rfl
theorem avs_len (ts : List Tree) : (avs ts).length = ts.length := by rw [avs_map]; simp
theorem avs_get {ts : List Tree} {k : Nat} {t : Tree} (h : ts[k]? = some t) : (avs ts)[k]? = some t.av := by rw [avs_map]; simp [h]
mutual
theorem Tree.av_pur : ∀ t : Tree, t.av.pur = true
  | .node i k s ks => by simp only [Tree.av, AV.pur, purL, Bool.true_and, Bool.and_true]; exact avs_pur ks
theorem avs_pur : ∀ ts : List Tree, purL (avs ts) = true
  | [] => rfl
  | t :: ts => by simp only [avs, purL, Bool.and_eq_true]; exact ⟨t.av_pur, avs_pur ts⟩
end
/-- No row is longer than a number can tell. -/
inductive Tree.ok : Tree → Prop
  | node {i k : Int} {s : ByteArray} {ks : List Tree} (h : ks.length ≤ 9223372036854775807) (hk : ∀ t ∈ ks, t.ok) : Tree.ok (.node i k s ks)
theorem Tree.ok.len {i k : Int} {s : ByteArray} {ks : List Tree} (h : Tree.ok (.node i k s ks)) : ks.length ≤ 9223372036854775807 := by cases h; assumption
theorem Tree.ok.kid {i k : Int} {s : ByteArray} {ks : List Tree} (h : Tree.ok (.node i k s ks)) {t : Tree} (ht : t ∈ ks) : t.ok := by cases h with | node _ hk => exact hk t ht
theorem Tree.kid_lt {i k : Int} {s : ByteArray} {ks : List Tree} {t : Tree} (ht : t ∈ ks) : SizeOf.sizeOf t < SizeOf.sizeOf (Tree.node i k s ks) := by
  have := List.sizeOf_lt_of_mem ht
  simp only [Tree.node.sizeOf_spec]
  omega
/-- A node of a walk. -/
def spot : Tree × Nat → AV
  | (.node i k s ks, d) => .agg [.int .i64 i, .int .i64 k, .str s, .sl 4 (avs ks), .int .i64 d]
def spots (l : List (Tree × Nat)) : List AV := l.map spot
theorem spots_len (l : List (Tree × Nat)) : (spots l).length = l.length := by simp [spots]
theorem spots_get {l : List (Tree × Nat)} {k : Nat} {x : Tree × Nat} (h : l[k]? = some x) : (spots l)[k]? = some (spot x) := by simp [spots, h]
theorem spot_pur (x : Tree × Nat) : (spot x).pur = true := by
  obtain ⟨⟨i, k, s, ks⟩, d⟩ := x
  simp only [spot, AV.pur, purL, Bool.true_and, Bool.and_true]
  exact avs_pur ks
theorem spots_pur (l : List (Tree × Nat)) : purL (spots l) = true := purL_of (by
  intro a ha
  obtain ⟨x, _, rfl⟩ := List.mem_map.1 ha
  exact spot_pur x)
mutual
def walkT (m : Nat) : Tree → List (Tree × Nat) → Nat → List (Tree × Nat)
  | .node i k s ks, l, d => if m ≤ l.length then l else walkK m ks (l ++ [(.node i k s ks, d)]) (d + 1)
def walkK (m : Nat) : List Tree → List (Tree × Nat) → Nat → List (Tree × Nat)
  | [], l, _ => l
  | t :: ts, l, d => walkK m ts (walkT m t l d) d
end
theorem walkK_app (m : Nat) : ∀ (a b : List Tree) (l : List (Tree × Nat)) (d : Nat), walkK m (a ++ b) l d = walkK m b (walkK m a l d) d
  | [], b, l, d => rfl
  | t :: a, b, l, d => by simp only [List.cons_append, walkK]; exact walkK_app m a b _ d
mutual
theorem walkT_len (m : Nat) : ∀ (t : Tree) (l : List (Tree × Nat)) (d : Nat), l.length ≤ (walkT m t l d).length ∧ (l.length ≤ m → (walkT m t l d).length ≤ m)
  | .node i k s ks, l, d => by
    simp only [walkT]
    split
    · exact ⟨Nat.le_refl _, id⟩
    · have := walkK_len m ks (l ++ [(.node i k s ks, d)]) (d + 1)
      simp at this
      exact ⟨by omega, fun _ => this.2 (by omega)⟩
theorem walkK_len (m : Nat) : ∀ (ts : List Tree) (l : List (Tree × Nat)) (d : Nat), l.length ≤ (walkK m ts l d).length ∧ (l.length ≤ m → (walkK m ts l d).length ≤ m)
  | [], l, d => ⟨Nat.le_refl _, id⟩
  | t :: ts, l, d => by
    simp only [walkK]
    have h1 := walkT_len m t l d
    have h2 := walkK_len m ts (walkT m t l d) d
    exact ⟨by omega, fun h => h2.2 (h1.2 h)⟩
end
/-- What a walk's call leaves: the row, grown. -/
def walkR (l : List (Tree × Nat)) : AEnd → Store → Prop := fun x L' => x = .ret (.row 1 5 0 l.length) ∧ L' = [none, some (.arr 5 (spots l))]
set_option maxRecDepth 20000 in
theorem walk61 (A : Ar) {P : Program} (hP : P = Try.prog) (m : Nat) (hm : m ≤ 1000000) : ∀ (n : Nat) (t : Tree), SizeOf.sizeOf t ≤ n → t.ok → ∀ (l : List (Tree × Nat)) (d : Nat), l.length ≤ m → d ≤ l.length + 1 →
    TC P 31 [.row 0 5 0 l.length, t.av, .int .i64 d, .int .i64 m] [some (.arr 5 (spots l))] (walkR (walkT m t l d)) := by
  intro n
  induction n with
  | zero => intro t h; cases t; simp at h
  | succ n ih =>
  intro t hs hok l d hl hd
  obtain ⟨i, k, s, ks⟩ := t
  refine TC.of_ewp A T0 (T0_ok hP) (hP ▸ Try.func31) rfl _ rfl (by simp) ?_
  simp only [Tree.av]
  generalize hsp : spots l = sp
  generalize hks : avs ks = aks
  generalize hn : l.length = nl
  generalize hR : walkR (walkT m (Tree.node i k s ks) l d) = R
  cbv
  ((try cbv) <;> (repeat ((with_reducible refine EW.of ?_); cbv)))
  refine bsplit (fun h => ?_) (fun h => ?_)
  · have h : m ≤ nl := le_nt h rfl (A.ok_nat _)
    ((try cbv) <;> (repeat ((with_reducible refine EW.of ?_); cbv)))
    refine ⟨_, _, VSV.settle (o := .arr 5 sp) 0 1 (Nat.le_refl _) (Nat.le_succ 1) rfl (uptoL_pur 1 _ (hsp ▸ spots_pur l)) rfl (.row 5 0 nl), ?_⟩
    rw [← hR, walkT, if_pos (by omega)]
    exact ⟨by rw [hn], by rw [hsp]; rfl⟩
  · have h : nl < m := le_nf h rfl (A.ok_nat _)
    ((try cbv) <;> (repeat ((with_reducible refine EW.of ?_); cbv)))
    refine ⟨⟨rfl⟩, nl + 1, spots (l ++ [(.node i k s ks, d)]), rfl, ?_, ?_, by omega, by omega, ?_⟩
    · have : sp.take nl = sp := List.take_of_length_le (by rw [← hsp, spots_len]; omega)
      rw [this]
      simp [spots, ← hsp, ← hks, spot]
    · rw [← hsp, spots_len]; omega
    generalize hsp1 : spots (l ++ [(.node i k s ks, d)]) = sp1
    ((try cbv) <;> (repeat ((with_reducible refine EW.of ?_); cbv)))
    obtain ⟨J, hJ⟩ : ∃ J : Nat → AFr → Store → Prop, J = fun c fr L => ∃ j : Nat, c = ks.length - j ∧ j ≤ ks.length ∧ ∃ l' : List (Tree × Nat), l' = walkK m (ks.take j) (l ++ [(.node i k s ks, d)]) (d + 1) ∧
      fr = ⟨39, [(9, .int .i64 j), (0, .row 2 5 0 l'.length), (5, .ref 1 4 0 0), (2, .int .i64 d), (3, .int .i64 m)]⟩ ∧ L = [none, some (.box 4 (.agg [.int .i64 i, .int .i64 k, .str s, .sl 4 aks])), some (.arr 5 (spots l'))] := ⟨_, rfl⟩
    refine TW.loopE A (T0_ok hP) J (n0 := ks.length)
      (fr0 := ⟨39, [(9, .int .i64 0), (0, .row 2 5 0 (nl + 1)), (5, .ref 1 4 0 0), (2, .int .i64 d), (3, .int .i64 m)]⟩) (L0 := [none, some (.box 4 (.agg [.int .i64 i, .int .i64 k, .str s, .sl 4 aks])), some (.arr 5 sp1)])
      (VS.pick rfl (.cons (Sub.refl _) (.cons (Sub.refl _) (.cons (Sub.refl _) (.cons (Sub.refl _) (.cons (Sub.refl _) .nil)))))) (by rw [hJ]; exact ⟨0, rfl, by omega, _, rfl, by simp [walkK, hn], by simp [walkK, hsp1]⟩) ?_
    intro c fr L hj
    rw [hJ] at hj
    obtain ⟨j, hc, hj, l', hl', rfl, rfl⟩ := hj
    generalize hsp' : spots l' = sp'
    generalize hn' : l'.length = nl'
    cbv
    ((try cbv) <;> (repeat ((with_reducible refine EW.of ?_); cbv)))
    refine bsplit (fun h => ?_) (fun h => ?_)
    · have h : j < aks.length := lt_nt h rfl (A.ok_len _)
      have hjk : j < ks.length := by rw [← hks, avs_len] at h; exact h
      obtain ⟨t', ht'⟩ : ∃ t', ks[j]? = some t' := ⟨_, List.getElem?_eq_getElem hjk⟩
      have hmem : t' ∈ ks := List.mem_of_getElem? ht'
      have hlt := Tree.kid_lt (i := i) (k := k) (s := s) hmem
      have hl1 := walkK_len m (ks.take j) (l ++ [(.node i k s ks, d)]) (d + 1)
      simp at hl1
      rw [← hl'] at hl1
      have hrec := ih t' (by omega) (hok.kid hmem) l' (d + 1) (hl1.2 (by omega)) (by omega)
      have hav := avs_get ht'
      rw [hks] at hav
      have hnext : walkT m t' l' (d + 1) = walkK m (ks.take (j + 1)) (l ++ [(.node i k s ks, d)]) (d + 1) := by
        rw [List.take_add_one, ht', walkK_app, ← hl']; rfl
      have hd1 : d + 1 < 9223372036854775807 := by omega
      obtain ⟨i', k', s', ks'⟩ := t'
      simp only [Tree.av] at hrec hav
      have hpk := avs_pur ks'
      generalize avs ks' = aks' at hrec hav hpk
      have hsp2 := spots_pur (walkT m (.node i' k' s' ks') l' (d + 1))
      have hsp0 := spots_pur l'
      rw [hnext] at hsp2 hrec
      generalize hl2 : walkK m (ks.take (j + 1)) (l ++ [(.node i k s ks, d)]) (d + 1) = l2 at hsp2 hrec
      rw [hn', hsp'] at hrec
      unfold walkR at hrec
      generalize hn2 : l2.length = n2 at hrec
      generalize hsq : spots l2 = sp2 at hrec hsp2
      have hlen := hok.len
      ((try cbv) <;> (repeat ((with_reducible refine EW.of ?_); cbv)))
      refine ⟨j, _, rfl, hav, ?_⟩
      cbv
      refine ⟨Ent.of (hP ▸ Try.func31) rfl, ?_⟩
      refine TC.row (q := 2) (n' := n2) (els' := sp2) hrec rfl (hsp' ▸ hsp0) hsp2 (.cons (.row (p := 0) 5 0 nl' rfl) (.cons (.pure (by simpa [AV.pur, purL] using hpk)) (.cons (.int (inc_eq A (by omega)).symm) (.cons (.pure rfl) .nil)))) ?_
      cbv
      ((try cbv) <;> (repeat ((with_reducible refine EW.of ?_); cbv)))
      refine ⟨ks.length - (j + 1), ⟨39, [(9, .int .i64 ((j + 1 : Nat) : Int)), (0, .row 2 5 0 n2), (5, .ref 1 4 0 0), (2, .int .i64 d), (3, .int .i64 m)]⟩, [none, some (.box 4 (.agg [.int .i64 i, .int .i64 k, .str s, .sl 4 aks])), some (.arr 5 (sp2))], by omega,
        VS.trans (VS.pick (l := [(9, .int .i64 ((j + 1 : Nat) : Int)), (0, .row 3 5 0 n2), (5, .ref 1 4 0 0), (2, .int .i64 d), (3, .int .i64 m)]) rfl (.cons (Sub.inc A (by omega)) (.cons (Sub.refl _) (.cons (Sub.refl _) (.cons (Sub.refl _) (.cons (Sub.refl _) .nil))))))
          (VS.settle (o := .arr 5 (sp2)) 3 2 rfl (by decide) (Nat.le_succ_of_le (Nat.le_succ 2)) rfl (uptoL_pur 2 _ hsp2) ?_ (.cons (.keep _ rfl) (.cons (.row 5 0 n2) (.cons (.keep _ rfl) (.cons (.keep _ rfl) (.cons (.keep _ rfl) .nil)))))), ?_⟩
      · have hpa := avs_pur ks
        rw [hks] at hpa
        have := uptoL_pur 2 _ hpa
        simp [oUpto, AO.upto, AV.upto, uptoL, this]
      · rw [hJ]; exact ⟨j + 1, rfl, by omega, l2, hl2.symm, by rw [hn2], by rw [hsq]⟩
    · have h : aks.length ≤ j := lt_nf h rfl (A.ok_len _)
      have hjk : j = ks.length := by rw [← hks, avs_len] at h; omega
      ((try cbv) <;> (repeat ((with_reducible refine EW.of ?_); cbv)))
      refine ⟨_, _, VSV.settle (o := .arr 5 sp') 2 1 (Nat.le_refl _) (Nat.le_succ_of_le (Nat.le_succ 1)) rfl (uptoL_pur 1 _ (hsp' ▸ spots_pur l')) rfl (.row 5 0 nl'), ?_⟩
      rw [hjk, List.take_length] at hl'
      rw [← hR, walkT, if_neg (by omega), ← hl']
      exact ⟨by rw [hn'], by rw [hsp']; rfl⟩
end Go.Proofs.Ytaieiigfheabfaa
