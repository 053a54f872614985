import Derived.Test.YtmbbdabcbnemiaaTy
import Derived.Test.YtmbbdabcbnemiaaTw6
import Derived.Test.YtmbbdabcbnemiaaTw7
import Derived.Test.YtmbbdabcbnemiaaTw9
/-! Trees and rows as abstract values; the first functions. -/
namespace Go.Proofs.Ytmbbdabcbnemiaa
open Go.Proofs.Ytmbbdabcbnemiaa.Tw
def ints (l : List Int) : List AV := l.map fun i => .int .i64 i
theorem ints_len (l : List Int) : (ints l).length = l.length := by simp [ints]
theorem ints_get {l : List Int} {k : Nat} {i : Int} (h : l[k]? = some i) : (ints l)[k]? = some (.int .i64 i) := by simp [ints, h]
theorem ints_pur (l : List Int) : purL (ints l) = true := purL_of (by simp [ints, AV.pur])
end Go.Proofs.Ytmbbdabcbnemiaa

/-! Trees as abstract values; the walk of a tree. -/
namespace Go.Proofs.Ytmbbdabcbnemiaa
open Go.Proofs.Ytmbbdabcbnemiaa.Tw
inductive Tree where
  | node (id kind : Int) (text : ByteArray) (kids : List Tree)
  deriving Inhabited
mutual
def Tree.av : Tree → AV
  | .node i k s ks => .agg [.int .i64 i, .int .i64 k, .str s, .sl 4 (avs ks)]
def avs : List Tree → List AV
  | [] => []
  | t :: ts => t.av :: avs ts
end
theorem avs_map : ∀ ts : List Tree, avs ts = ts.map Tree.av
  | [] => rfl
  | t :: ts => by rw [avs, avs_map ts]; rfl
theorem avs_len (ts : List Tree) : (avs ts).length = ts.length := by rw [avs_map]; simp
theorem avs_get {ts : List Tree} {k : Nat} {t : Tree} (h : ts[k]? = some t) : (avs ts)[k]? = some t.av := by rw [avs_map]; simp [h]
mutual
theorem Tree.av_pur : ∀ t : Tree, t.av.pur = true
  | .node i k s ks => by simp only [Tree.av, AV.pur, purL, Bool.true_and, Bool.and_true]; exact avs_pur ks
theorem avs_pur : ∀ ts : List Tree, purL (avs ts) = true
  | [] => rfl
  | t :: ts => by simp only [avs, purL, Bool.and_eq_true]; exact ⟨t.av_pur, avs_pur ts⟩
end
/-- No row is longer than a number can tell. -/
inductive Tree.ok : Tree → Prop
  | node {i k : Int} {s : ByteArray} {ks : List Tree} (h : ks.length ≤ 9223372036854775807) (hk : ∀ t ∈ ks, t.ok) : Tree.ok (.node i k s ks)
theorem Tree.ok.len {i k : Int} {s : ByteArray} {ks : List Tree} (h : Tree.ok (.node i k s ks)) : ks.length ≤ 9223372036854775807 := by cases h; assumption
theorem Tree.ok.kid {i k : Int} {s : ByteArray} {ks : List Tree} (h : Tree.ok (.node i k s ks)) {t : Tree} (ht : t ∈ ks) : t.ok := by cases h with | node _ hk => exact hk t ht
theorem Tree.kid_lt {i k : Int} {s : ByteArray} {ks : List Tree} {t : Tree} (ht : t ∈ ks) : SizeOf.sizeOf t < SizeOf.sizeOf (Tree.node i k s ks) := by
  have := List.sizeOf_lt_of_mem ht
  simp only [Tree.node.sizeOf_spec]
  omega
/-- A node of a walk. -/
def spot : Tree × Nat → AV
  | (.node i k s ks, d) => .agg [.int .i64 i, .int .i64 k, .str s, .sl 4 (avs ks), .int .i64 d]
def spots (l : List (Tree × Nat)) : List AV := l.map spot
theorem spots_len (l : List (Tree × Nat)) : (spots l).length = l.length := by simp [spots]
theorem spots_get {l : List (Tree × Nat)} {k : Nat} {x : Tree × Nat} (h : l[k]? = some x) : (spots l)[k]? = some (spot x) := by simp [spots, h]
theorem spot_pur (x : Tree × Nat) : (spot x).pur = true := by
  obtain ⟨⟨i, k, s, ks⟩, d⟩ := x
  simp only [spot, AV.pur, purL, Bool.true_and, Bool.and_true]
  exact avs_pur ks
theorem spots_pur (l : List (Tree × Nat)) : purL (spots l) = true := purL_of (by
  intro a ha
  obtain ⟨x, _, rfl⟩ := List.mem_map.1 ha
  exact spot_pur x)
mutual
def walkT (m : Nat) : Tree → List (Tree × Nat) → Nat → List (Tree × Nat)
  | .node i k s ks, l, d => if m ≤ l.length then l else walkK m ks (l ++ [(.node i k s ks, d)]) (d + 1)
def walkK (m : Nat) : List Tree → List (Tree × Nat) → Nat → List (Tree × Nat)
  | [], l, _ => l
  | t :: ts, l, d => walkK m ts (walkT m t l d) d
end
theorem walkK_app (m : Nat) : ∀ (a b : List Tree) (l : List (Tree × Nat)) (d : Nat), walkK m (a ++ b) l d = walkK m b (walkK m a l d) d
  | [], b, l, d => rfl
  | t :: a, b, l, d => by simp only [List.cons_append, walkK]; exact walkK_app m a b _ d
mutual
theorem walkT_len (m : Nat) : ∀ (t : Tree) (l : List (Tree × Nat)) (d : Nat), l.length ≤ (walkT m t l d).length ∧ (l.length ≤ m → (walkT m t l d).length ≤ m)
  | .node i k s ks, l, d => by
    simp only [walkT]
    split
    · exact ⟨Nat.le_refl _, id⟩
    · have := walkK_len m ks (l ++ [(.node i k s ks, d)]) (d + 1)
      simp at this
      exact ⟨by omega, fun _ => this.2 (by omega)⟩
theorem walkK_len (m : Nat) : ∀ (ts : List Tree) (l : List (Tree × Nat)) (d : Nat), l.length ≤ (walkK m ts l d).length ∧ (l.length ≤ m → (walkK m ts l d).length ≤ m)
  | [], l, d => ⟨Nat.le_refl _, id⟩
  | t :: ts, l, d => by
    simp only [walkK]
    have h1 := walkT_len m t l d
    have h2 := walkK_len m ts (walkT m t l d) d
    exact ⟨by omega, fun h => h2.2 (h1.2 h)⟩
end
/-- What a walk's call leaves: the row, grown. -/
def walkR (l : List (Tree × Nat)) : AEnd → Store → Prop := fun x L' => x = .ret (.row 1 5 0 l.length) ∧ L' = [none, some (.arr 5 (spots l))]
set_option maxRecDepth 20000 in
theorem walk61 (A : Ar) {P : Program} (hP : P = Try.prog) (m : Nat) (hm : m ≤ 1000000) : ∀ (n : Nat) (t : Tree), SizeOf.sizeOf t ≤ n → t.ok → ∀ (l : List (Tree × Nat)) (d : Nat), l.length ≤ m → d ≤ l.length + 1 →
    TC P 60 [.row 0 5 0 l.length, t.av, .int .i64 d, .int .i64 m] [some (.arr 5 (spots l))] (walkR (walkT m t l d)) := by
  intro n
  induction n with
  | zero => intro t h; cases t; simp at h
  | succ n ih =>
  intro t hs hok l d hl hd
  obtain ⟨i, k, s, ks⟩ := t
  refine TC.of_ewp A T0 (T0_ok hP) (hP ▸ Try.func60) rfl _ rfl (by simp) ?_
  simp only [Tree.av]
  generalize hsp : spots l = sp
  generalize hks : avs ks = aks
  generalize hn : l.length = nl
  generalize hR : walkR (walkT m (Tree.node i k s ks) l d) = R
  cbv
  ((try cbv) <;> (repeat ((with_reducible refine EW.of ?_); cbv)))
  refine bsplit (fun h => ?_) (fun h => ?_)
  · have h : m ≤ nl := le_nt h rfl (A.ok_nat _)
    ((try cbv) <;> (repeat ((with_reducible refine EW.of ?_); cbv)))
    refine ⟨_, _, VSV.settle (o := .arr 5 sp) 0 1 (Nat.le_refl _) (Nat.le_succ 1) rfl (uptoL_pur 1 _ (hsp ▸ spots_pur l)) rfl (.row 5 0 nl), ?_⟩
    rw [← hR, walkT, if_pos (by omega)]
    exact ⟨by rw [hn], by rw [hsp]; rfl⟩
  · have h : nl < m := le_nf h rfl (A.ok_nat _)
    ((try cbv) <;> (repeat ((with_reducible refine EW.of ?_); cbv)))
    refine ⟨⟨rfl⟩, nl + 1, spots (l ++ [(.node i k s ks, d)]), rfl, ?_, ?_, by omega, by omega, ?_⟩
    · have : sp.take nl = sp := List.take_of_length_le (by rw [← hsp, spots_len]; omega)
      rw [this]
      simp [spots, ← hsp, ← hks, spot]
    · rw [← hsp, spots_len]; omega
    generalize hsp1 : spots (l ++ [(.node i k s ks, d)]) = sp1
    ((try cbv) <;> (repeat ((with_reducible refine EW.of ?_); cbv)))
    obtain ⟨J, hJ⟩ : ∃ J : Nat → AFr → Store → Prop, J = fun c fr L => ∃ j : Nat, c = ks.length - j ∧ j ≤ ks.length ∧ ∃ l' : List (Tree × Nat), l' = walkK m (ks.take j) (l ++ [(.node i k s ks, d)]) (d + 1) ∧
      fr = ⟨39, [(9, .int .i64 j), (0, .row 2 5 0 l'.length), (5, .ref 1 4 0 0), (2, .int .i64 d), (3, .int .i64 m)]⟩ ∧ L = [none, some (.box 4 (.agg [.int .i64 i, .int .i64 k, .str s, .sl 4 aks])), some (.arr 5 (spots l'))] := ⟨_, rfl⟩
    refine TW.loopE A (T0_ok hP) J (n0 := ks.length)
      (fr0 := ⟨39, [(9, .int .i64 0), (0, .row 2 5 0 (nl + 1)), (5, .ref 1 4 0 0), (2, .int .i64 d), (3, .int .i64 m)]⟩) (L0 := [none, some (.box 4 (.agg [.int .i64 i, .int .i64 k, .str s, .sl 4 aks])), some (.arr 5 sp1)])
      (VS.pick rfl (.cons (Sub.refl _) (.cons (Sub.refl _) (.cons (Sub.refl _) (.cons (Sub.refl _) (.cons (Sub.refl _) .nil)))))) (by rw [hJ]; exact ⟨0, rfl, by omega, _, rfl, by simp [walkK, hn], by simp [walkK, hsp1]⟩) ?_
    intro c fr L hj
    rw [hJ] at hj
    obtain ⟨j, hc, hj, l', hl', rfl, rfl⟩ := hj
    generalize hsp' : spots l' = sp'
    generalize hn' : l'.length = nl'
    cbv
    ((try cbv) <;> (repeat ((with_reducible refine EW.of ?_); cbv)))
    refine bsplit (fun h => ?_) (fun h => ?_)
    · have h : j < aks.length := lt_nt h rfl (A.ok_len _)
      have hjk : j < ks.length := by rw [← hks, avs_len] at h; exact h
      obtain ⟨t', ht'⟩ : ∃ t', ks[j]? = some t' := ⟨_, List.getElem?_eq_getElem hjk⟩
      have hmem : t' ∈ ks := List.mem_of_getElem? ht'
      have hlt := Tree.kid_lt (i := i) (k := k) (s := s) hmem
      have hl1 := walkK_len m (ks.take j) (l ++ [(.node i k s ks, d)]) (d + 1)
      simp at hl1
      rw [← hl'] at hl1
      have hrec := ih t' (by omega) (hok.kid hmem) l' (d + 1) (hl1.2 (by omega)) (by omega)
      have hav := avs_get ht'
      rw [hks] at hav
      have hnext : walkT m t' l' (d + 1) = walkK m (ks.take (j + 1)) (l ++ [(.node i k s ks, d)]) (d + 1) := by
        rw [List.take_add_one, ht', walkK_app, ← hl']; rfl
      have hd1 : d + 1 < 9223372036854775807 := by omega
      obtain ⟨i', k', s', ks'⟩ := t'
      simp only [Tree.av] at hrec hav
      have hpk := avs_pur ks'
      generalize avs ks' = aks' at hrec hav hpk
      have hsp2 := spots_pur (walkT m (.node i' k' s' ks') l' (d + 1))
      have hsp0 := spots_pur l'
      rw [hnext] at hsp2 hrec
      generalize hl2 : walkK m (ks.take (j + 1)) (l ++ [(.node i k s ks, d)]) (d + 1) = l2 at hsp2 hrec
      rw [hn', hsp'] at hrec
      unfold walkR at hrec
      generalize hn2 : l2.length = n2 at hrec
      generalize hsq : spots l2 = sp2 at hrec hsp2
      have hlen := hok.len
      ((try cbv) <;> (repeat ((with_reducible refine EW.of ?_); cbv)))
      refine ⟨j, _, rfl, hav, ?_⟩
      cbv
      refine ⟨Ent.of (hP ▸ Try.func60) rfl, ?_⟩
      refine TC.row (q := 2) (n' := n2) (els' := sp2) hrec rfl (hsp' ▸ hsp0) hsp2 (.cons (.row (p := 0) 5 0 nl' rfl) (.cons (.pure (by simpa [AV.pur, purL] using hpk)) (.cons (.int (inc_eq A (by omega)).symm) (.cons (.pure rfl) .nil)))) ?_
      cbv
      ((try cbv) <;> (repeat ((with_reducible refine EW.of ?_); cbv)))
      refine ⟨ks.length - (j + 1), ⟨39, [(9, .int .i64 ((j + 1 : Nat) : Int)), (0, .row 2 5 0 n2), (5, .ref 1 4 0 0), (2, .int .i64 d), (3, .int .i64 m)]⟩, [none, some (.box 4 (.agg [.int .i64 i, .int .i64 k, .str s, .sl 4 aks])), some (.arr 5 (sp2))], by omega,
        VS.trans (VS.pick (l := [(9, .int .i64 ((j + 1 : Nat) : Int)), (0, .row 3 5 0 n2), (5, .ref 1 4 0 0), (2, .int .i64 d), (3, .int .i64 m)]) rfl (.cons (Sub.inc A (by omega)) (.cons (Sub.refl _) (.cons (Sub.refl _) (.cons (Sub.refl _) (.cons (Sub.refl _) .nil))))))
          (VS.settle (o := .arr 5 (sp2)) 3 2 rfl (by decide) (Nat.le_succ_of_le (Nat.le_succ 2)) rfl (uptoL_pur 2 _ hsp2) ?_ (.cons (.keep _ rfl) (.cons (.row 5 0 n2) (.cons (.keep _ rfl) (.cons (.keep _ rfl) (.cons (.keep _ rfl) .nil)))))), ?_⟩
      · have hpa := avs_pur ks
        rw [hks] at hpa
        have := uptoL_pur 2 _ hpa
        simp [oUpto, AO.upto, AV.upto, uptoL, this]
      · rw [hJ]; exact ⟨j + 1, rfl, by omega, l2, hl2.symm, by rw [hn2], by rw [hsq]⟩
    · have h : aks.length ≤ j := lt_nf h rfl (A.ok_len _)
      have hjk : j = ks.length := by rw [← hks, avs_len] at h; omega
      ((try cbv) <;> (repeat ((with_reducible refine EW.of ?_); cbv)))
      refine ⟨_, _, VSV.settle (o := .arr 5 sp') 2 1 (Nat.le_refl _) (Nat.le_succ_of_le (Nat.le_succ 1)) rfl (uptoL_pur 1 _ (hsp' ▸ spots_pur l')) rfl (.row 5 0 nl'), ?_⟩
      rw [hjk, List.take_length] at hl'
      rw [← hR, walkT, if_neg (by omega), ← hl']
      exact ⟨by rw [hn'], by rw [hsp']; rfl⟩
end Go.Proofs.Ytmbbdabcbnemiaa

/-! Walk, Great. -/
namespace Go.Proofs.Ytmbbdabcbnemiaa
open Go.Proofs.Ytmbbdabcbnemiaa.Tw
set_option maxRecDepth 20000 in
theorem walk61n (A : Ar) {P : Program} (hP : P = Try.prog) (m : Nat) (hm : m ≤ 1000000) (hm1 : 1 ≤ m) (t : Tree) (hok : t.ok) :
    TC P 60 [.nils, t.av, .int .i64 1, .int .i64 m] [] (fun x L' => x = .ret (.row 0 5 0 (walkT m t [] 1).length) ∧ L' = [some (.arr 5 (spots (walkT m t [] 1)))]) := by
  obtain ⟨i, k, s, ks⟩ := t
  obtain ⟨l, hl0⟩ : ∃ l : List (Tree × Nat), l = [] := ⟨_, rfl⟩
  obtain ⟨d, hd0⟩ : ∃ d : Nat, d = 1 := ⟨_, rfl⟩
  have hl : l.length ≤ m := by rw [hl0]; exact Nat.zero_le _
  have hd : d ≤ l.length + 1 := by rw [hl0, hd0]; exact Nat.le_refl _
  obtain ⟨nl, hn⟩ : ∃ nl, l.length = nl := ⟨_, rfl⟩
  have hnl : nl = 0 := by rw [← hn, hl0]; rfl
  simp only [Tree.av]
  generalize hks : avs ks = aks
  rw [show (1 : Int) = ((d : Nat) : Int) from by rw [hd0]; rfl, show walkT m (Tree.node i k s ks) [] 1 = walkT m (Tree.node i k s ks) l d from by rw [hl0, hd0]]
  refine TC.of_ewp A T0 (T0_ok hP) (hP ▸ Try.func60) rfl _ rfl (by simp) ?_
  generalize hR : (fun (x : AEnd) (L' : Store) => x = AEnd.ret (.row 0 5 0 (walkT m (Tree.node i k s ks) l d).length) ∧ L' = [some (.arr 5 (spots (walkT m (Tree.node i k s ks) l d)))]) = R
  cbv
  ((try cbv) <;> (repeat ((with_reducible refine EW.of ?_); cbv)))
  refine bsplit (fun h => ?_) (fun h => ?_)
  · have h : (m : Int) ≤ 0 := le_t h rfl rfl
    omega
  · ((try cbv) <;> (repeat ((with_reducible refine EW.of ?_); cbv)))
    refine ⟨⟨rfl⟩, nl + 1, spots (l ++ [(.node i k s ks, d)]), by rw [hnl]; rfl, by rw [hl0]; simp [spots, ← hks, spot], by simp, by omega, by omega, ?_⟩
    have h : nl < m := by omega
    have ih := fun (t : Tree) (hok : t.ok) => walk61 A hP m hm (SizeOf.sizeOf t) t (Nat.le_refl _) hok
    generalize hsp1 : spots (l ++ [(.node i k s ks, d)]) = sp1
    ((try cbv) <;> (repeat ((with_reducible refine EW.of ?_); cbv)))
    obtain ⟨J, hJ⟩ : ∃ J : Nat → AFr → Store → Prop, J = fun c fr L => ∃ j : Nat, c = ks.length - j ∧ j ≤ ks.length ∧ ∃ l' : List (Tree × Nat), l' = walkK m (ks.take j) (l ++ [(.node i k s ks, d)]) (d + 1) ∧
      fr = ⟨39, [(9, .int .i64 j), (0, .row 1 5 0 l'.length), (5, .ref 0 4 0 0), (2, .int .i64 d), (3, .int .i64 m)]⟩ ∧ L = [some (.box 4 (.agg [.int .i64 i, .int .i64 k, .str s, .sl 4 aks])), some (.arr 5 (spots l'))] := ⟨_, rfl⟩
    refine TW.loopE A (T0_ok hP) J (n0 := ks.length)
      (fr0 := ⟨39, [(9, .int .i64 0), (0, .row 1 5 0 (nl + 1)), (5, .ref 0 4 0 0), (2, .int .i64 d), (3, .int .i64 m)]⟩) (L0 := [some (.box 4 (.agg [.int .i64 i, .int .i64 k, .str s, .sl 4 aks])), some (.arr 5 sp1)])
      (VS.pick rfl (.cons (Sub.refl _) (.cons (Sub.refl _) (.cons (Sub.refl _) (.cons (Sub.refl _) (.cons (Sub.refl _) .nil)))))) (by rw [hJ]; exact ⟨0, rfl, by omega, _, rfl, by simp [walkK, hn], by simp [walkK, hsp1]⟩) ?_
    intro c fr L hj
    rw [hJ] at hj
    obtain ⟨j, hc, hj, l', hl', rfl, rfl⟩ := hj
    generalize hsp' : spots l' = sp'
    generalize hn' : l'.length = nl'
    cbv
    ((try cbv) <;> (repeat ((with_reducible refine EW.of ?_); cbv)))
    refine bsplit (fun h => ?_) (fun h => ?_)
    · have h : j < aks.length := lt_nt h rfl (A.ok_len _)
      have hjk : j < ks.length := by rw [← hks, avs_len] at h; exact h
      obtain ⟨t', ht'⟩ : ∃ t', ks[j]? = some t' := ⟨_, List.getElem?_eq_getElem hjk⟩
      have hmem : t' ∈ ks := List.mem_of_getElem? ht'
      have hl1 := walkK_len m (ks.take j) (l ++ [(.node i k s ks, d)]) (d + 1)
      simp at hl1
      rw [← hl'] at hl1
      have hrec := ih t' (hok.kid hmem) l' (d + 1) (hl1.2 (by omega)) (by omega)
      have hav := avs_get ht'
      rw [hks] at hav
      have hnext : walkT m t' l' (d + 1) = walkK m (ks.take (j + 1)) (l ++ [(.node i k s ks, d)]) (d + 1) := by
        rw [List.take_add_one, ht', walkK_app, ← hl']; rfl
      have hd1 : d + 1 < 9223372036854775807 := by omega
      obtain ⟨i', k', s', ks'⟩ := t'
      simp only [Tree.av] at hrec hav
      have hpk := avs_pur ks'
      generalize avs ks' = aks' at hrec hav hpk
      have hsp2 := spots_pur (walkT m (.node i' k' s' ks') l' (d + 1))
      have hsp0 := spots_pur l'
      rw [hnext] at hsp2 hrec
      generalize hl2 : walkK m (ks.take (j + 1)) (l ++ [(.node i k s ks, d)]) (d + 1) = l2 at hsp2 hrec
      rw [hn', hsp'] at hrec
      unfold walkR at hrec
      generalize hn2 : l2.length = n2 at hrec
      generalize hsq : spots l2 = sp2 at hrec hsp2
      have hlen := hok.len
      ((try cbv) <;> (repeat ((with_reducible refine EW.of ?_); cbv)))
      refine ⟨j, _, rfl, hav, ?_⟩
      cbv
      refine ⟨Ent.of (hP ▸ Try.func60) rfl, ?_⟩
      refine TC.row (q := 1) (n' := n2) (els' := sp2) hrec rfl (hsp' ▸ hsp0) hsp2 (.cons (.row (p := 0) 5 0 nl' rfl) (.cons (.pure (by simpa [AV.pur, purL] using hpk)) (.cons (.int (inc_eq A (by omega)).symm) (.cons (.pure rfl) .nil)))) ?_
      cbv
      ((try cbv) <;> (repeat ((with_reducible refine EW.of ?_); cbv)))
      refine ⟨ks.length - (j + 1), ⟨39, [(9, .int .i64 ((j + 1 : Nat) : Int)), (0, .row 1 5 0 n2), (5, .ref 0 4 0 0), (2, .int .i64 d), (3, .int .i64 m)]⟩, [some (.box 4 (.agg [.int .i64 i, .int .i64 k, .str s, .sl 4 aks])), some (.arr 5 (sp2))], by omega,
        VS.trans (VS.pick (l := [(9, .int .i64 ((j + 1 : Nat) : Int)), (0, .row 2 5 0 n2), (5, .ref 0 4 0 0), (2, .int .i64 d), (3, .int .i64 m)]) rfl (.cons (Sub.inc A (by omega)) (.cons (Sub.refl _) (.cons (Sub.refl _) (.cons (Sub.refl _) (.cons (Sub.refl _) .nil))))))
          (VS.settle (o := .arr 5 (sp2)) 2 1 rfl (by decide) (Nat.le_succ_of_le (Nat.le_succ 1)) rfl (uptoL_pur 1 _ hsp2) ?_ (.cons (.keep _ rfl) (.cons (.row 5 0 n2) (.cons (.keep _ rfl) (.cons (.keep _ rfl) (.cons (.keep _ rfl) .nil)))))), ?_⟩
      · have hpa := avs_pur ks
        rw [hks] at hpa
        have := uptoL_pur 1 _ hpa
        simp [oUpto, AO.upto, AV.upto, uptoL, this]
      · rw [hJ]; exact ⟨j + 1, rfl, by omega, l2, hl2.symm, by rw [hn2], by rw [hsq]⟩
    · have h : aks.length ≤ j := lt_nf h rfl (A.ok_len _)
      have hjk : j = ks.length := by rw [← hks, avs_len] at h; omega
      ((try cbv) <;> (repeat ((with_reducible refine EW.of ?_); cbv)))
      refine ⟨_, _, VSV.settle (o := .arr 5 sp') 1 0 (Nat.le_refl _) (Nat.zero_le _) rfl (uptoL_pur 0 _ (hsp' ▸ spots_pur l')) rfl (.row 5 0 nl'), ?_⟩
      rw [hjk, List.take_length] at hl'
      rw [← hR, walkT, if_neg (by omega), ← hl']
      exact ⟨by rw [hn'], by rw [hsp']; rfl⟩

/-- The walk of a whole tree. -/
theorem Walk23 (A : Ar) {P : Program} (hP : P = Try.prog) (m : Nat) (hm : m ≤ 1000000) (hm1 : 1 ≤ m) (t : Tree) (hok : t.ok) : TPure P 36 [t.av, .int .i64 m] (.sl 5 (spots (walkT m t [] 1))) := by
  refine TPure.of (TC.of_ewp A T0 (T0_ok hP) (hP ▸ Try.func36) rfl _ rfl (by simp) ?_)
  have h61 := walk61n A hP m hm hm1 t hok
  have hp := spots_pur (walkT m t [] 1)
  have hl := spots_len (walkT m t [] 1)
  obtain ⟨i, k, s, ks⟩ := t
  simp only [Tree.av] at h61 ⊢
  have hpk := avs_pur ks
  generalize avs ks = aks at h61 hpk
  generalize (walkT m (Tree.node i k s ks) [] 1) = l at h61 hp hl
  generalize spots l = sp at h61 hp hl
  generalize l.length = n at h61 hl
  cbv
  ((try cbv) <;> (repeat ((with_reducible refine EW.of ?_); cbv)))
  refine ⟨Ent.of (hP ▸ Try.func60) rfl, ?_⟩
  refine TC.row0 (n' := n) (els' := sp) h61 hp (.cons (.pure rfl) (.cons (.pure (by simpa [AV.pur, purL] using hpk)) (.cons (.pure rfl) (.cons (.pure rfl) .nil)))) ?_
  cbv
  ((try cbv) <;> (repeat ((with_reducible refine EW.of ?_); cbv)))
  exact ⟨_, _, VSV.trans (VSV.freeze (v' := .sl 5 sp) (p := 1) (els := sp) rfl (.whole hl.symm)) (VSV.pure (by simpa [AV.pur] using hp)), rfl, rfl⟩
/-- Whether a tree is more than is asked of. -/
def great (t : Tree) : Bool := decide (2000 < (walkT 2001 t [] 1).length) || (walkT 2001 t [] 1).any fun x => decide (2000 < x.2)
end Go.Proofs.Ytmbbdabcbnemiaa

/-! Representations that are not reckoned out. -/
namespace Go.Proofs.Ytmbbdabcbnemiaa
open Go.Proofs.Ytmbbdabcbnemiaa.Tw
/-- Values of a kind, and rows of them. -/
structure Emb (α : Type) where
  v : α → AV
  l : List α → List AV
  ok : ∀ xs, l xs = xs.map v
  pur : ∀ x, (v x).pur = true
namespace Emb
variable {α : Type} (E : Emb α)
theorem len (xs : List α) : (E.l xs).length = xs.length := by rw [E.ok]; simp
theorem get {xs : List α} {k : Nat} {x : α} (h : xs[k]? = some x) : (E.l xs)[k]? = some (E.v x) := by rw [E.ok]; simp [h]
theorem purL (xs : List α) : Tw.purL (E.l xs) = true := purL_of (by
  rw [E.ok]
  intro a ha
  obtain ⟨x, _, rfl⟩ := List.mem_map.1 ha
  exact E.pur x)
theorem Pur (xs : List α) : Tw.Pur (E.l xs) := ⟨E.purL xs⟩
theorem nil : E.l [] = [] := by rw [E.ok]; rfl
theorem app (xs ys : List α) : E.l (xs ++ ys) = E.l xs ++ E.l ys := by simp only [E.ok, List.map_append]
theorem cons (x : α) (ys : List α) : E.l (x :: ys) = E.v x :: E.l ys := by simp only [E.ok, List.map_cons]
theorem take (xs : List α) (n : Nat) : (E.l xs).take n = E.l (xs.take n) := by simp only [E.ok, List.map_take]
theorem drop (xs : List α) (n : Nat) : (E.l xs).drop n = E.l (xs.drop n) := by simp only [E.ok, List.map_drop]
theorem cut {xs : List α} {n : Nat} (h : n = xs.length) : Tw.Cut (E.l xs) 0 n (E.l xs) := ⟨by rw [List.drop_zero, E.take, h, List.take_length], by rw [E.len, h]; omega⟩
theorem cut' {xs ys : List α} {n : Nat} (h : n ≤ xs.length) (hy : xs.take n = ys) : Tw.Cut (E.l xs) 0 n (E.l ys) := ⟨by rw [List.drop_zero, E.take, hy], by rw [E.len]; omega⟩
end Emb
/-- The kinds of this program. -/
structure Em where
  int : Emb Int
  tree : Emb Tree
  spot : Emb (Tree × Nat)
  ok_int : int.v = fun i => .int .i64 i
  ok_tree : tree.v = Tree.av
  ok_spot : spot.v = Ytmbbdabcbnemiaa.spot
def em0 : Em where
  int := ⟨_, _, fun _ => rfl, fun _ => rfl⟩
  tree := ⟨Tree.av, _, fun _ => rfl, Tree.av_pur⟩
  spot := ⟨spot, _, fun _ => rfl, spot_pur⟩
  ok_int := rfl
  ok_tree := rfl
  ok_spot := rfl
namespace Em
variable (E : Em)
theorem ints (l : List Int) : ints l = E.int.l l := by rw [E.int.ok, E.ok_int]; rfl
theorem trees (l : List Tree) : avs l = E.tree.l l := by rw [E.tree.ok, E.ok_tree, avs_map]
theorem av (t : Tree) : t.av = E.tree.v t := by rw [E.ok_tree]
theorem spots (l : List (Tree × Nat)) : spots l = E.spot.l l := by rw [E.spot.ok, E.ok_spot]; rfl
theorem iv (i : Int) : E.int.v i = .int .i64 i := by rw [E.ok_int]
theorem node (i k : Int) (s : ByteArray) (ks : List Tree) : E.tree.v (.node i k s ks) = .agg [.int .i64 i, .int .i64 k, .str s, .sl 4 (E.tree.l ks)] := by rw [← E.av, Tree.av, E.trees]
theorem spotv (i k : Int) (s : ByteArray) (ks : List Tree) (d : Nat) : E.spot.v (.node i k s ks, d) = .agg [.int .i64 i, .int .i64 k, .str s, .sl 4 (E.tree.l ks), .int .i64 d] := by
  rw [E.ok_spot]
  simp only [Ytmbbdabcbnemiaa.spot, E.trees]
theorem geti {l : List Int} {k : Nat} {x : Int} (h : l[k]? = some x) : (E.int.l l)[k]? = some (.int .i64 x) := by rw [E.int.get h, E.iv]
theorem getn {l : List Tree} {j : Nat} {i k : Int} {s : ByteArray} {ks : List Tree} (h : l[j]? = some (.node i k s ks)) : (E.tree.l l)[j]? = some (.agg [.int .i64 i, .int .i64 k, .str s, .sl 4 (E.tree.l ks)]) := by rw [E.tree.get h, E.node]
theorem gets {l : List (Tree × Nat)} {j d : Nat} {i k : Int} {s : ByteArray} {ks : List Tree} (h : l[j]? = some (.node i k s ks, d)) : (E.spot.l l)[j]? = some (.agg [.int .i64 i, .int .i64 k, .str s, .sl 4 (E.tree.l ks), .int .i64 d]) := by rw [E.spot.get h, E.spotv]
end Em
end Go.Proofs.Ytmbbdabcbnemiaa

/-! Bytes, and a reader's first steps. -/
namespace Go.Proofs.Ytmbbdabcbnemiaa
open Go.Proofs.Ytmbbdabcbnemiaa.Tw
/-- Bytes, not reckoned out. -/
structure EmB where
  l : Emb UInt8
  ok : l.v = fun b => .int .u8 b.toNat
def emB0 : EmB := ⟨⟨fun b => .int .u8 b.toNat, _, fun _ => rfl, fun _ => rfl⟩, rfl⟩
theorem EmB.get (B : EmB) {l : List UInt8} {j : Nat} {b : UInt8} (h : l[j]? = some b) : (B.l.l l)[j]? = some (.int .u8 b.toNat) := by rw [B.l.get h, B.ok]
/-- A reader: its bytes, where it is, the first byte that can't stand there. -/
def rdr (B : EmB) (bs : List UInt8) (at' bad : Int) : AO := .box 3 (.agg [.sl 1 (B.l.l bs), .int .i64 at', .int .i64 bad])
/-- What can't stand there, as a panic. -/
def failAV (i : Int) : AV := .ifc 85 (.agg [.int .i64 i])
theorem sub_back (A : Ar) {a n a2 : Nat} (ha2 : a2 = a + n) (h : a2 ≤ 1000000000) : A.op .sub .i64 (A.op .add .i64 (a : Int) (n : Int)) (n : Int) = (a : Int) := by
  subst ha2
  rw [add_i64 rfl rfl (by omega) (by omega), sub_i64 rfl rfl (by omega) (by omega)]
  omega
set_option maxHeartbeats 1000000 in
theorem take_ok (A : Ar) (B : EmB) {P : Program} (hP : P = Try.prog) (bs : List UInt8) (hl : bs.length ≤ 1000000000) (a : Nat) (bad : Int) (n a2 : Nat) (ha2 : a2 = a + n) (h : a2 ≤ bs.length) (r : List UInt8) (hr : r = (bs.drop a).take n) :
    TCX P 62 [.ref 0 3 0 0, .int .i64 n] [some (rdr B bs a bad)] (.ret (.sl 1 (B.l.l r))) [some (rdr B bs a2 bad)] := by
  refine TCX.of A _ _ T0 (T0_ok hP) (hP ▸ Try.func62) rfl _ rfl (by simp) ?_
  have hbl := B.l.len bs
  unfold rdr
  cbv
  ((try cbv) <;> (repeat ((with_reducible refine EW.of ?_); cbv)))
  (refine TW.draw (A := A) (T0_ok hP) (hP ▸ follows_mixed) (by kernel_rfl) rfl ?_; cbv)
  ((try cbv) <;> (repeat ((with_reducible refine EW.of ?_); cbv)))
  have hsub : A.op .sub .i64 (A.len (B.l.l bs)) (a : Int) = ((bs.length - a : Nat) : Int) := by rw [A.ok_len, hbl, sub_i64 rfl rfl (by omega) (by omega)]; omega
  have hadd : A.op .add .i64 (a : Int) (n : Int) = (a2 : Int) := by rw [add_i64 rfl rfl (by omega) (by omega)]; omega
  refine bno (show A.lt (A.op .sub .i64 (A.len (B.l.l bs)) (a : Int)) (n : Int) = false by rw [hsub]; exact ltF (by omega)) ?_
  ((try cbv) <;> (repeat ((with_reducible refine EW.of ?_); cbv)))
  (refine TW.draw (A := A) (T0_ok hP) (hP ▸ follows_mixed) (by kernel_rfl) rfl ?_; cbv)
  have hsub2 := sub_back A ha2 (by omega)
  refine ⟨a, hsub2, a2, hadd, a2, hadd, rfl, B.l.l r, ?_, (by omega), (by show a2 ≤ (B.l.l bs).length; omega), ?_⟩
  · show B.l.l r = List.drop a (List.take a2 (B.l.l bs))
    rw [B.l.take, B.l.drop, hr, ha2, List.drop_take]
    congr 2
    omega
  cbv
  ((try cbv) <;> (repeat ((with_reducible refine EW.of ?_); cbv)))
  refine R1.of ?_
  cbv
  exact ⟨B.l.Pur _, hadd, B.l.Pur _, trivial⟩
set_option maxHeartbeats 1000000 in
theorem take_no (A : Ar) (B : EmB) {P : Program} (hP : P = Try.prog) (bs : List UInt8) (hl : bs.length ≤ 1000000000) (a : Nat) (bad : Int) (n : Nat) (hn : n ≤ 1000000000) (ha : a ≤ bs.length) (h : bs.length < a + n) (e : Int) (he : e = bs.length) :
    TCX P 62 [.ref 0 3 0 0, .int .i64 n] [some (rdr B bs a bad)] (.pan (failAV e)) [some (rdr B bs a bad)] := by
  refine TCX.of A _ _ T0 (T0_ok hP) (hP ▸ Try.func62) rfl _ rfl (by simp) ?_
  have hbl := B.l.len bs
  unfold rdr failAV
  cbv
  ((try cbv) <;> (repeat ((with_reducible refine EW.of ?_); cbv)))
  (refine TW.draw (A := A) (T0_ok hP) (hP ▸ follows_mixed) (by kernel_rfl) rfl ?_; cbv)
  ((try cbv) <;> (repeat ((with_reducible refine EW.of ?_); cbv)))
  have hsub : A.op .sub .i64 (A.len (B.l.l bs)) (a : Int) = ((bs.length - a : Nat) : Int) := by rw [A.ok_len, hbl, sub_i64 rfl rfl (by omega) (by omega)]; omega
  refine byes (show A.lt (A.op .sub .i64 (A.len (B.l.l bs)) (a : Int)) (n : Int) = true by rw [hsub]; exact ltT (by omega)) ?_
  ((try cbv) <;> (repeat ((with_reducible refine EW.of ?_); cbv)))
  refine R1.of ?_
  cbv
  exact ⟨B.l.Pur _, by rw [he, ← hbl]; exact A.ok_len _, trivial⟩
end Go.Proofs.Ytmbbdabcbnemiaa

/-! A reader's numbers. -/
namespace Go.Proofs.Ytmbbdabcbnemiaa
open Go.Proofs.Ytmbbdabcbnemiaa.Tw
/-- What a reader comes to: a thing, or a byte that can't stand there; and where it is then. -/
inductive RR (α : Type) where
  | ok (v : α) (at' : Nat)
  | no (e : Int) (at' : Nat)
namespace RR
variable {α β : Type}
def fin (f : α → AV) : RR α → AEnd
  | .ok v _ => .ret (f v)
  | .no e _ => .pan (failAV e)
def pos : RR α → Nat
  | .ok _ a => a
  | .no _ a => a
def bind (r : RR α) (f : α → Nat → RR β) : RR β :=
  match r with
  | .ok v a => f v a
  | .no e a => .no e a
end RR
/-- The next bytes. -/
def takeR (bs : List UInt8) (a n : Nat) : RR (List UInt8) := if a + n ≤ bs.length then .ok ((bs.drop a).take n) (a + n) else .no bs.length a
theorem takeR_ok {bs l : List UInt8} {a n a2 : Nat} (h : takeR bs a n = .ok l a2) : l.length = n ∧ a2 = a + n ∧ a2 ≤ bs.length := by
  unfold takeR at h
  split at h
  · cases h; simp; omega
  · cases h
theorem takeR_no {bs : List UInt8} {a n a2 : Nat} {e : Int} (h : takeR bs a n = .no e a2) : e = bs.length ∧ a2 = a := by
  unfold takeR at h
  split at h
  · cases h
  · cases h; exact ⟨rfl, rfl⟩
theorem take62 (A : Ar) (B : EmB) {P : Program} (hP : P = Try.prog) (bs : List UInt8) (hl : bs.length ≤ 1000000000) (a : Nat) (ha : a ≤ bs.length) (bad : Int) (n : Nat) (hn : n ≤ 1000000000) :
    TCX P 62 [.ref 0 3 0 0, .int .i64 n] [some (rdr B bs a bad)] ((takeR bs a n).fin fun r => .sl 1 (B.l.l r)) [some (rdr B bs (takeR bs a n).pos bad)] := by
  unfold takeR
  by_cases h : a + n ≤ bs.length
  · rw [if_pos h]
    exact take_ok A B hP bs hl a bad n (a + n) rfl h _ rfl
  · rw [if_neg h]
    exact take_no A B hP bs hl a bad n hn ha (by omega) _ rfl
def stepN (A : Ar) (n : Int) (b : UInt8) : Int := A.op .or .u64 (A.op .shl .u64 n 8) (A.wrap .u64 b.toNat)
def foldN (A : Ar) (n : Int) (l : List UInt8) : Int := l.foldl (stepN A) n
theorem foldN_drop {A : Ar} {n : Int} : ∀ {l : List UInt8} {j : Nat} {b : UInt8}, l[j]? = some b → foldN A n (l.drop j) = foldN A (stepN A n b) (l.drop (j + 1))
  | [], j, b, h => by simp at h
  | c :: l, 0, b, h => by simp at h; subst h; rfl
  | c :: l, j + 1, b, h => by simp only [List.drop_succ_cons]; exact foldN_drop (by simpa using h)
def numR (A : Ar) (bs : List UInt8) (a : Nat) : RR Int := (takeR bs a 8).bind fun l a => .ok (A.wrap .i64 (foldN A 0 l)) a
set_option maxHeartbeats 1000000 in
theorem number43 (A : Ar) (B : EmB) {P : Program} (hP : P = Try.prog) (bs : List UInt8) (hl : bs.length ≤ 1000000000) (a : Nat) (ha : a ≤ bs.length) (bad : Int) :
    TCX P 43 [.ref 0 3 0 0] [some (rdr B bs a bad)] ((numR A bs a).fin fun n => .int .i64 n) [some (rdr B bs (numR A bs a).pos bad)] := by
  have h62 := take62 A B hP bs hl a ha bad 8 (by omega)
  unfold numR
  have hln : ∀ l a2, takeR bs a 8 = .ok l a2 → l.length = 8 := fun l a2 h => (takeR_ok h).1
  generalize takeR bs a 8 = r at h62 hln
  have hbl := B.l.len bs
  cases r with
  | no e a2 =>
    show TCX P 43 [.ref 0 3 0 0] [some (rdr B bs a bad)] (.pan (failAV e)) [some (rdr B bs a2 bad)]
    replace h62 : TCX P 62 _ _ (.pan (failAV e)) [some (rdr B bs a2 bad)] := h62
    unfold rdr failAV at *
    refine TCX.of A _ _ T0 (T0_ok hP) (hP ▸ Try.func43) rfl _ rfl (by simp) ?_
    cbv
    ((try cbv) <;> (repeat ((with_reducible refine EW.of ?_); cbv)))
    refine ⟨Ent.of (hP ▸ Try.func62) rfl, ?_⟩
    refine TCX.call [0] h62 ?_
    cbv
    (repeat (first | exact trivial | refine And.intro (Emb.Pur _ _) ?_ | refine And.intro rfl ?_))
    refine R1.of ?_
    cbv
    (repeat (first | exact trivial | refine And.intro (Emb.Pur _ _) ?_ | refine And.intro rfl ?_))
  | ok l a2 =>
    have hl8 := hln l a2 rfl
    obtain ⟨res, hres⟩ : ∃ res, A.wrap .i64 (foldN A 0 l) = res := ⟨_, rfl⟩
    show TCX P 43 [.ref 0 3 0 0] [some (rdr B bs a bad)] (.ret (.int .i64 (A.wrap .i64 (foldN A 0 l)))) [some (rdr B bs a2 bad)]
    replace h62 : TCX P 62 _ _ (.ret (.sl 1 (B.l.l l))) [some (rdr B bs a2 bad)] := h62
    rw [hres]
    unfold rdr at *
    refine TCX.of A _ _ T0 (T0_ok hP) (hP ▸ Try.func43) rfl _ rfl (by simp) ?_
    have hll := B.l.len l
    cbv
    ((try cbv) <;> (repeat ((with_reducible refine EW.of ?_); cbv)))
    refine ⟨Ent.of (hP ▸ Try.func62) rfl, ?_⟩
    refine TCX.call [0] h62 ?_
    cbv
    (repeat (first | exact trivial | refine And.intro (Emb.Pur _ _) ?_ | refine And.intro (inc_eq A (by omega)) ?_ | refine And.intro rfl ?_))
    ((try cbv) <;> (repeat ((with_reducible refine EW.of ?_); cbv)))
    obtain ⟨S, hS⟩ : ∃ S : LI (Nat × Int), S = ⟨fun x => [(9, .int .i64 x.1), (8, .int .i64 (A.len (B.l.l l))), (7, .sl 1 (B.l.l l)), (3, .int .u64 x.2)], fun _ => [some (.box 3 (.agg [.sl 1 (B.l.l bs), .int .i64 a2, .int .i64 bad]))], fun x => x.1 ≤ l.length ∧ A.wrap .i64 (foldN A x.2 (l.drop x.1)) = res, fun x => l.length - x.1⟩ := ⟨_, rfl⟩
    refine TW.loopM A (T0_ok hP) S _ rfl (0, 0) ?_ ?_ ?_
    · rw [hS]; exact ⟨Nat.zero_le _, hres⟩
    · rw [hS]
      cbv
      (repeat (first | exact trivial | refine And.intro (Emb.Pur _ _) ?_ | refine And.intro (inc_eq A (by omega)) ?_ | refine And.intro rfl ?_))
    rintro ⟨j, n⟩ hj l1 L1 e1 e2
    rw [hS] at hj e1 e2
    dsimp only at hj e1 e2
    obtain ⟨hj, hinv⟩ := hj
    subst e1 e2
    cbv
    ((try cbv) <;> (repeat ((with_reducible refine EW.of ?_); cbv)))
    refine bsplit (fun h => ?_) (fun h => ?_)
    · have h : j < (B.l.l l).length := lt_nt h rfl (A.ok_len _)
      obtain ⟨x, hx⟩ : ∃ x, l[j]? = some x := ⟨_, List.getElem?_eq_getElem (by omega)⟩
      rw [foldN_drop hx] at hinv
      obtain ⟨n2, hn2⟩ : ∃ n2, n2 = stepN A n x := ⟨_, rfl⟩
      rw [← hn2] at hinv
      ((try cbv) <;> (repeat ((with_reducible refine EW.of ?_); cbv)))
      refine ⟨j, _, rfl, B.get hx, ?_⟩
      cbv
      ((try cbv) <;> (repeat ((with_reducible refine EW.of ?_); cbv)))
      refine ⟨by decide, ?_⟩
      ((try cbv) <;> (repeat ((with_reducible refine EW.of ?_); cbv)))
      refine LM.of (j + 1, n2) rfl ?_ ?_ ?_
      · rw [hS]; exact ⟨by show j + 1 ≤ _; omega, hinv⟩
      · rw [hS]; show l.length - (j + 1) < l.length - j; omega
      · rw [hS]
        cbv
        (repeat (first | exact trivial | refine And.intro (Emb.Pur _ _) ?_ | refine And.intro (inc_eq A (by omega)) ?_ | refine And.intro rfl ?_ | refine And.intro hn2.symm ?_))
    · have h : (B.l.l l).length ≤ j := lt_nf h rfl (A.ok_len _)
      rw [List.drop_eq_nil_of_le (by omega)] at hinv
      ((try cbv) <;> (repeat ((with_reducible refine EW.of ?_); cbv)))
      refine R1.of ?_
      cbv
      (repeat (first | exact trivial | refine And.intro (Emb.Pur _ _) ?_ | refine And.intro hinv ?_ | refine And.intro rfl ?_))
end Go.Proofs.Ytmbbdabcbnemiaa

/-! Asking a reader: a panic is caught. -/
namespace Go.Proofs.Ytmbbdabcbnemiaa
open Go.Proofs.Ytmbbdabcbnemiaa.Tw
set_option maxHeartbeats 1000000 in
theorem askI_nil (A : Ar) {P : Program} (hP : P = Try.prog) (g : FuncId) : TPure P 42 [.nil, .func (.func g) [.nil] []] (.int .i64 0) := by
  have h : TCX P 42 [.nil, .func (.func g) [.nil] []] [] (.ret (.int .i64 0)) [] := by
    refine TCX.ofD A _ _ T0 (T0_ok hP) (hP ▸ Try.func42) rfl _ rfl (by simp) ?_
    refine EWD.seq ?_
    cbv
    refine EWD.seq ?_
    cbv
    ((try cbv) <;> (repeat ((with_reducible refine EW.of ?_); cbv)))
    refine R1.of ?_
    cbv
    (repeat (first | exact trivial | refine And.intro (Emb.Pur _ _) ?_ | refine And.intro rfl ?_ | refine And.intro (Pur.mk rfl) ?_ | refine And.intro (Pur.mk (by assumption)) ?_))
  exact TPure.of h
set_option maxHeartbeats 1000000 in
theorem askI_bad (A : Ar) (B : EmB) {P : Program} (hP : P = Try.prog) (bs : List UInt8) (a : Int) (bad : Int) (hbad : 0 ≤ bad) (g : FuncId) :
    TCX P 42 [.ref 0 3 0 0, .func (.func g) [.ref 0 3 0 0] []] [some (rdr B bs a bad)] (.ret (.int .i64 0)) [some (rdr B bs a bad)] := by
  unfold rdr at *
  refine TCX.ofD A _ _ T0 (T0_ok hP) (hP ▸ Try.func42) rfl _ rfl (by simp) ?_
  refine EWD.seq ?_
  cbv
  refine EWD.seq ?_
  cbv
  ((try cbv) <;> (repeat ((with_reducible refine EW.of ?_); cbv)))
  refine byes (leT hbad) ?_
  cbv
  ((try cbv) <;> (repeat ((with_reducible refine EW.of ?_); cbv)))
  refine R1.of ?_
  cbv
  (repeat (first | exact trivial | refine And.intro (Emb.Pur _ _) ?_ | refine And.intro rfl ?_ | refine And.intro (Pur.mk rfl) ?_ | refine And.intro (Pur.mk (by assumption)) ?_))
set_option maxHeartbeats 1000000 in
theorem askI_number_no (A : Ar) (B : EmB) {P : Program} (hP : P = Try.prog) (bs : List UInt8) (a a2 : Nat) (bad e : Int) (hbad : bad < 0)
    (hg : TCX P 43 [.ref 0 3 0 0] [some (rdr B bs a bad)] (.pan (failAV e)) [some (rdr B bs a2 bad)]) :
    TCX P 42 [.ref 0 3 0 0, .func (.func 43) [.ref 0 3 0 0] []] [some (rdr B bs a bad)] (.ret (.int .i64 0)) [some (rdr B bs a2 e)] := by
  (try unfold rdr at *)
  (try unfold failAV at *)
  refine TCX.ofD A _ _ T0 (T0_ok hP) (hP ▸ Try.func42) rfl _ rfl (by simp) ?_
  refine EWD.seq ?_
  cbv
  refine EWD.seq ?_
  cbv
  ((try cbv) <;> (repeat ((with_reducible refine EW.of ?_); cbv)))
  refine bno (leF hbad) ?_
  cbv
  ((try cbv) <;> (repeat ((with_reducible refine EW.of ?_); cbv)))
  refine EWD.defer ?_
  cbv
  refine ⟨Ent.of (hP ▸ Try.func43) rfl, ?_⟩
  refine TCX.call [0] hg ?_
  cbv
  (repeat (first | exact trivial | refine And.intro (Emb.Pur _ _) ?_ | refine And.intro rfl ?_ | refine And.intro (Pur.mk rfl) ?_ | refine And.intro (Pur.mk (by assumption)) ?_))
  ((try cbv) <;> (repeat ((with_reducible refine EW.of ?_); cbv)))
  refine ⟨Ent.of (hP ▸ Try.func61) rfl, ?_⟩
  refine DC.of A T0 (T0_ok hP) (hP ▸ Try.func61) rfl _ rfl (by simp) rfl rfl rfl rfl rfl ?_
  cbv
  ((try cbv) <;> (repeat ((with_reducible refine EW.of ?_); cbv)))
  refine R1.of ?_
  cbv
  (repeat (first | exact trivial | refine And.intro (Emb.Pur _ _) ?_ | refine And.intro rfl ?_ | refine And.intro (Pur.mk rfl) ?_ | refine And.intro (Pur.mk (by assumption)) ?_))
set_option maxHeartbeats 1000000 in
theorem askI_number_ok (A : Ar) (B : EmB) {P : Program} (hP : P = Try.prog) (bs : List UInt8) (a a2 : Nat) (bad : Int) (hbad : bad < 0) (v : Int)
    (hg : TCX P 43 [.ref 0 3 0 0] [some (rdr B bs a bad)] (.ret (.int .i64 v)) [some (rdr B bs a2 bad)]) :
    TCX P 42 [.ref 0 3 0 0, .func (.func 43) [.ref 0 3 0 0] []] [some (rdr B bs a bad)] (.ret (.int .i64 v)) [some (rdr B bs a2 bad)] := by
  (try unfold rdr at *)
  (try unfold failAV at *)
  refine TCX.ofD A _ _ T0 (T0_ok hP) (hP ▸ Try.func42) rfl _ rfl (by simp) ?_
  refine EWD.seq ?_
  cbv
  refine EWD.seq ?_
  cbv
  ((try cbv) <;> (repeat ((with_reducible refine EW.of ?_); cbv)))
  refine bno (leF hbad) ?_
  cbv
  ((try cbv) <;> (repeat ((with_reducible refine EW.of ?_); cbv)))
  refine EWD.defer ?_
  cbv
  refine ⟨Ent.of (hP ▸ Try.func43) rfl, ?_⟩
  refine TCX.call [0] hg ?_
  cbv
  (repeat (first | exact trivial | refine And.intro (Emb.Pur _ _) ?_ | refine And.intro rfl ?_ | refine And.intro (Pur.mk rfl) ?_ | refine And.intro (Pur.mk (by assumption)) ?_))
  ((try cbv) <;> (repeat ((with_reducible refine EW.of ?_); cbv)))
  refine ⟨Ent.of (hP ▸ Try.func61) rfl, ?_⟩
  refine DC.of A T0 (T0_ok hP) (hP ▸ Try.func61) rfl _ rfl (by simp) rfl rfl rfl rfl rfl ?_
  cbv
  ((try cbv) <;> (repeat ((with_reducible refine EW.of ?_); cbv)))
  refine R1.of ?_
  cbv
  (repeat (first | exact trivial | refine And.intro (Emb.Pur _ _) ?_ | refine And.intro rfl ?_ | refine And.intro (Pur.mk rfl) ?_ | refine And.intro (Pur.mk (by assumption)) ?_))
set_option maxHeartbeats 1000000 in
theorem askS_nil (A : Ar) {P : Program} (hP : P = Try.prog) (g : FuncId) : TPure P 45 [.nil, .func (.func g) [.nil] []] (.int .i8 0) := by
  have h : TCX P 45 [.nil, .func (.func g) [.nil] []] [] (.ret (.int .i8 0)) [] := by
    refine TCX.ofD A _ _ T0 (T0_ok hP) (hP ▸ Try.func45) rfl _ rfl (by simp) ?_
    refine EWD.seq ?_
    cbv
    refine EWD.seq ?_
    cbv
    ((try cbv) <;> (repeat ((with_reducible refine EW.of ?_); cbv)))
    refine R1.of ?_
    cbv
    (repeat (first | exact trivial | refine And.intro (Emb.Pur _ _) ?_ | refine And.intro rfl ?_ | refine And.intro (Pur.mk rfl) ?_ | refine And.intro (Pur.mk (by assumption)) ?_))
  exact TPure.of h
set_option maxHeartbeats 1000000 in
theorem askS_bad (A : Ar) (B : EmB) {P : Program} (hP : P = Try.prog) (bs : List UInt8) (a : Int) (bad : Int) (hbad : 0 ≤ bad) (g : FuncId) :
    TCX P 45 [.ref 0 3 0 0, .func (.func g) [.ref 0 3 0 0] []] [some (rdr B bs a bad)] (.ret (.int .i8 0)) [some (rdr B bs a bad)] := by
  unfold rdr at *
  refine TCX.ofD A _ _ T0 (T0_ok hP) (hP ▸ Try.func45) rfl _ rfl (by simp) ?_
  refine EWD.seq ?_
  cbv
  refine EWD.seq ?_
  cbv
  ((try cbv) <;> (repeat ((with_reducible refine EW.of ?_); cbv)))
  refine byes (leT hbad) ?_
  cbv
  ((try cbv) <;> (repeat ((with_reducible refine EW.of ?_); cbv)))
  refine R1.of ?_
  cbv
  (repeat (first | exact trivial | refine And.intro (Emb.Pur _ _) ?_ | refine And.intro rfl ?_ | refine And.intro (Pur.mk rfl) ?_ | refine And.intro (Pur.mk (by assumption)) ?_))
set_option maxHeartbeats 1000000 in
theorem askS_small_no (A : Ar) (B : EmB) {P : Program} (hP : P = Try.prog) (bs : List UInt8) (a a2 : Nat) (bad e : Int) (hbad : bad < 0)
    (hg : TCX P 46 [.ref 0 3 0 0] [some (rdr B bs a bad)] (.pan (failAV e)) [some (rdr B bs a2 bad)]) :
    TCX P 45 [.ref 0 3 0 0, .func (.func 46) [.ref 0 3 0 0] []] [some (rdr B bs a bad)] (.ret (.int .i8 0)) [some (rdr B bs a2 e)] := by
  (try unfold rdr at *)
  (try unfold failAV at *)
  refine TCX.ofD A _ _ T0 (T0_ok hP) (hP ▸ Try.func45) rfl _ rfl (by simp) ?_
  refine EWD.seq ?_
  cbv
  refine EWD.seq ?_
  cbv
  ((try cbv) <;> (repeat ((with_reducible refine EW.of ?_); cbv)))
  refine bno (leF hbad) ?_
  cbv
  ((try cbv) <;> (repeat ((with_reducible refine EW.of ?_); cbv)))
  refine EWD.defer ?_
  cbv
  refine ⟨Ent.of (hP ▸ Try.func46) rfl, ?_⟩
  refine TCX.call [0] hg ?_
  cbv
  (repeat (first | exact trivial | refine And.intro (Emb.Pur _ _) ?_ | refine And.intro rfl ?_ | refine And.intro (Pur.mk rfl) ?_ | refine And.intro (Pur.mk (by assumption)) ?_))
  ((try cbv) <;> (repeat ((with_reducible refine EW.of ?_); cbv)))
  refine ⟨Ent.of (hP ▸ Try.func63) rfl, ?_⟩
  refine DC.of A T0 (T0_ok hP) (hP ▸ Try.func63) rfl _ rfl (by simp) rfl rfl rfl rfl rfl ?_
  cbv
  ((try cbv) <;> (repeat ((with_reducible refine EW.of ?_); cbv)))
  refine R1.of ?_
  cbv
  (repeat (first | exact trivial | refine And.intro (Emb.Pur _ _) ?_ | refine And.intro rfl ?_ | refine And.intro (Pur.mk rfl) ?_ | refine And.intro (Pur.mk (by assumption)) ?_))
set_option maxHeartbeats 1000000 in
theorem askS_small_ok (A : Ar) (B : EmB) {P : Program} (hP : P = Try.prog) (bs : List UInt8) (a a2 : Nat) (bad : Int) (hbad : bad < 0) (v : Int)
    (hg : TCX P 46 [.ref 0 3 0 0] [some (rdr B bs a bad)] (.ret (.int .i8 v)) [some (rdr B bs a2 bad)]) :
    TCX P 45 [.ref 0 3 0 0, .func (.func 46) [.ref 0 3 0 0] []] [some (rdr B bs a bad)] (.ret (.int .i8 v)) [some (rdr B bs a2 bad)] := by
  (try unfold rdr at *)
  (try unfold failAV at *)
  refine TCX.ofD A _ _ T0 (T0_ok hP) (hP ▸ Try.func45) rfl _ rfl (by simp) ?_
  refine EWD.seq ?_
  cbv
  refine EWD.seq ?_
  cbv
  ((try cbv) <;> (repeat ((with_reducible refine EW.of ?_); cbv)))
  refine bno (leF hbad) ?_
  cbv
  ((try cbv) <;> (repeat ((with_reducible refine EW.of ?_); cbv)))
  refine EWD.defer ?_
  cbv
  refine ⟨Ent.of (hP ▸ Try.func46) rfl, ?_⟩
  refine TCX.call [0] hg ?_
  cbv
  (repeat (first | exact trivial | refine And.intro (Emb.Pur _ _) ?_ | refine And.intro rfl ?_ | refine And.intro (Pur.mk rfl) ?_ | refine And.intro (Pur.mk (by assumption)) ?_))
  ((try cbv) <;> (repeat ((with_reducible refine EW.of ?_); cbv)))
  refine ⟨Ent.of (hP ▸ Try.func63) rfl, ?_⟩
  refine DC.of A T0 (T0_ok hP) (hP ▸ Try.func63) rfl _ rfl (by simp) rfl rfl rfl rfl rfl ?_
  cbv
  ((try cbv) <;> (repeat ((with_reducible refine EW.of ?_); cbv)))
  refine R1.of ?_
  cbv
  (repeat (first | exact trivial | refine And.intro (Emb.Pur _ _) ?_ | refine And.intro rfl ?_ | refine And.intro (Pur.mk rfl) ?_ | refine And.intro (Pur.mk (by assumption)) ?_))
set_option maxHeartbeats 1000000 in
theorem askT_nil (A : Ar) {P : Program} (hP : P = Try.prog) (g : FuncId) : TPure P 47 [.nil, .func (.func g) [.nil] []] (.str ⟨#[]⟩) := by
  have h : TCX P 47 [.nil, .func (.func g) [.nil] []] [] (.ret (.str ⟨#[]⟩)) [] := by
    refine TCX.ofD A _ _ T0 (T0_ok hP) (hP ▸ Try.func47) rfl _ rfl (by simp) ?_
    refine EWD.seq ?_
    cbv
    refine EWD.seq ?_
    cbv
    ((try cbv) <;> (repeat ((with_reducible refine EW.of ?_); cbv)))
    refine R1.of ?_
    cbv
    (repeat (first | exact trivial | refine And.intro (Emb.Pur _ _) ?_ | refine And.intro rfl ?_ | refine And.intro (Pur.mk rfl) ?_ | refine And.intro (Pur.mk (by assumption)) ?_))
  exact TPure.of h
set_option maxHeartbeats 1000000 in
theorem askT_bad (A : Ar) (B : EmB) {P : Program} (hP : P = Try.prog) (bs : List UInt8) (a : Int) (bad : Int) (hbad : 0 ≤ bad) (g : FuncId) :
    TCX P 47 [.ref 0 3 0 0, .func (.func g) [.ref 0 3 0 0] []] [some (rdr B bs a bad)] (.ret (.str ⟨#[]⟩)) [some (rdr B bs a bad)] := by
  unfold rdr at *
  refine TCX.ofD A _ _ T0 (T0_ok hP) (hP ▸ Try.func47) rfl _ rfl (by simp) ?_
  refine EWD.seq ?_
  cbv
  refine EWD.seq ?_
  cbv
  ((try cbv) <;> (repeat ((with_reducible refine EW.of ?_); cbv)))
  refine byes (leT hbad) ?_
  cbv
  ((try cbv) <;> (repeat ((with_reducible refine EW.of ?_); cbv)))
  refine R1.of ?_
  cbv
  (repeat (first | exact trivial | refine And.intro (Emb.Pur _ _) ?_ | refine And.intro rfl ?_ | refine And.intro (Pur.mk rfl) ?_ | refine And.intro (Pur.mk (by assumption)) ?_))
set_option maxHeartbeats 1000000 in
theorem askT_text_no (A : Ar) (B : EmB) {P : Program} (hP : P = Try.prog) (bs : List UInt8) (a a2 : Nat) (bad e : Int) (hbad : bad < 0)
    (hg : TCX P 48 [.ref 0 3 0 0] [some (rdr B bs a bad)] (.pan (failAV e)) [some (rdr B bs a2 bad)]) :
    TCX P 47 [.ref 0 3 0 0, .func (.func 48) [.ref 0 3 0 0] []] [some (rdr B bs a bad)] (.ret (.str ⟨#[]⟩)) [some (rdr B bs a2 e)] := by
  (try unfold rdr at *)
  (try unfold failAV at *)
  refine TCX.ofD A _ _ T0 (T0_ok hP) (hP ▸ Try.func47) rfl _ rfl (by simp) ?_
  refine EWD.seq ?_
  cbv
  refine EWD.seq ?_
  cbv
  ((try cbv) <;> (repeat ((with_reducible refine EW.of ?_); cbv)))
  refine bno (leF hbad) ?_
  cbv
  ((try cbv) <;> (repeat ((with_reducible refine EW.of ?_); cbv)))
  refine EWD.defer ?_
  cbv
  refine ⟨Ent.of (hP ▸ Try.func48) rfl, ?_⟩
  refine TCX.call [0] hg ?_
  cbv
  (repeat (first | exact trivial | refine And.intro (Emb.Pur _ _) ?_ | refine And.intro rfl ?_ | refine And.intro (Pur.mk rfl) ?_ | refine And.intro (Pur.mk (by assumption)) ?_))
  ((try cbv) <;> (repeat ((with_reducible refine EW.of ?_); cbv)))
  refine ⟨Ent.of (hP ▸ Try.func64) rfl, ?_⟩
  refine DC.of A T0 (T0_ok hP) (hP ▸ Try.func64) rfl _ rfl (by simp) rfl rfl rfl rfl rfl ?_
  cbv
  ((try cbv) <;> (repeat ((with_reducible refine EW.of ?_); cbv)))
  refine R1.of ?_
  cbv
  (repeat (first | exact trivial | refine And.intro (Emb.Pur _ _) ?_ | refine And.intro rfl ?_ | refine And.intro (Pur.mk rfl) ?_ | refine And.intro (Pur.mk (by assumption)) ?_))
set_option maxHeartbeats 1000000 in
theorem askT_text_ok (A : Ar) (B : EmB) {P : Program} (hP : P = Try.prog) (bs : List UInt8) (a a2 : Nat) (bad : Int) (hbad : bad < 0) (v : ByteArray)
    (hg : TCX P 48 [.ref 0 3 0 0] [some (rdr B bs a bad)] (.ret (.str v)) [some (rdr B bs a2 bad)]) :
    TCX P 47 [.ref 0 3 0 0, .func (.func 48) [.ref 0 3 0 0] []] [some (rdr B bs a bad)] (.ret (.str v)) [some (rdr B bs a2 bad)] := by
  (try unfold rdr at *)
  (try unfold failAV at *)
  refine TCX.ofD A _ _ T0 (T0_ok hP) (hP ▸ Try.func47) rfl _ rfl (by simp) ?_
  refine EWD.seq ?_
  cbv
  refine EWD.seq ?_
  cbv
  ((try cbv) <;> (repeat ((with_reducible refine EW.of ?_); cbv)))
  refine bno (leF hbad) ?_
  cbv
  ((try cbv) <;> (repeat ((with_reducible refine EW.of ?_); cbv)))
  refine EWD.defer ?_
  cbv
  refine ⟨Ent.of (hP ▸ Try.func48) rfl, ?_⟩
  refine TCX.call [0] hg ?_
  cbv
  (repeat (first | exact trivial | refine And.intro (Emb.Pur _ _) ?_ | refine And.intro rfl ?_ | refine And.intro (Pur.mk rfl) ?_ | refine And.intro (Pur.mk (by assumption)) ?_))
  ((try cbv) <;> (repeat ((with_reducible refine EW.of ?_); cbv)))
  refine ⟨Ent.of (hP ▸ Try.func64) rfl, ?_⟩
  refine DC.of A T0 (T0_ok hP) (hP ▸ Try.func64) rfl _ rfl (by simp) rfl rfl rfl rfl rfl ?_
  cbv
  ((try cbv) <;> (repeat ((with_reducible refine EW.of ?_); cbv)))
  refine R1.of ?_
  cbv
  (repeat (first | exact trivial | refine And.intro (Emb.Pur _ _) ?_ | refine And.intro rfl ?_ | refine And.intro (Pur.mk rfl) ?_ | refine And.intro (Pur.mk (by assumption)) ?_))
end Go.Proofs.Ytmbbdabcbnemiaa

/-! A reader laid, and its end. -/
namespace Go.Proofs.Ytmbbdabcbnemiaa
open Go.Proofs.Ytmbbdabcbnemiaa.Tw
theorem EmB.scal (B : EmB) (l : List UInt8) : Scal (B.l.l l) := ⟨by
  rw [B.l.ok, B.ok]
  simp [escal, AV.cells, AV.scalar]⟩
theorem msplit {els : List AV} {X : Prop} {Y : AV → List AV → Prop} : (els = [] → X) → (∀ x xs, els = x :: xs → Y x xs) → (match els with | [] => X | x :: xs => Y x xs) := fun h1 h2 => by
  cases els with
  | nil => exact h1 rfl
  | cons x xs => exact h2 x xs rfl
theorem own38n (A : Ar) {P : Program} (hP : P = Try.prog) : TPure P 38 [.sl 1 []] .nils := by
  refine TPure.ofE A T0 (T0_ok hP) (hP ▸ Try.func38) rfl _ rfl (by simp) ?_
  cbv
  ((try cbv) <;> (repeat ((with_reducible refine EW.of ?_); cbv)))
theorem own38 (A : Ar) (B : EmB) {P : Program} (hP : P = Try.prog) (bs : List UInt8) (hl : bs.length ≤ 1000000000) (h0 : bs ≠ []) (q : Nat) (hq : q = bs.length) : TC1 P 38 [.sl 1 (B.l.l bs)] [] (.row 0 1 0 q) [some (.arr 1 (B.l.l bs))] := by
  refine TC1.of A _ _ T0 (T0_ok hP) (hP ▸ Try.func38) rfl _ rfl (by simp) ?_
  have hll := B.l.len bs
  have hsc := B.scal bs
  have hne : B.l.l bs ≠ [] := fun e => h0 (List.eq_nil_of_length_eq_zero (by rw [← hll, e]; rfl))
  cbv
  ((try cbv) <;> (repeat ((with_reducible refine EW.of ?_); cbv)))
  refine msplit (fun he => absurd he hne) (fun a al he => ?_)
  have he2 : a :: al = B.l.l bs := he.symm
  refine ⟨⟨by rw [he2]; exact hsc.h⟩, q, B.l.l bs, by rw [he2, hll, Nat.zero_add, hq], by rw [he2]; rfl, Nat.zero_le _, by show q * 1 ≤ _; omega, by omega, ?_⟩
  cbv
  ((try cbv) <;> (repeat ((with_reducible refine EW.of ?_); cbv)))
  refine R1.of ?_
  cbv
  (repeat (first | exact trivial | refine And.intro (Emb.Pur _ _) ?_ | refine And.intro rfl ?_))
theorem New18 (A : Ar) (B : EmB) {P : Program} (hP : P = Try.prog) (bs : List UInt8) (hl : bs.length ≤ 1000000000) : TC1 P 18 [.sl 1 (B.l.l bs)] [] (.ref 0 3 0 0) [some (rdr B bs 0 (-1))] := by
  by_cases h0 : bs = []
  · subst h0
    have h38 := own38n A hP
    unfold rdr
    rw [B.l.nil]
    refine TC1.of A _ _ T0 (T0_ok hP) (hP ▸ Try.func18) rfl _ rfl (by simp) ?_
    cbv
    ((try cbv) <;> (repeat ((with_reducible refine EW.of ?_); cbv)))
    (refine ⟨Ent.of (hP ▸ Try.func38) rfl, ?_⟩; refine TC.pureE h38 ?_; cbv; (repeat (first | exact trivial | refine And.intro (Emb.Pur _ _) ?_ | refine And.intro rfl ?_ | refine And.intro (Pur.mk rfl) ?_ | refine And.intro (Pur.mk (by assumption)) ?_)); ((try cbv) <;> (repeat ((with_reducible refine EW.of ?_); cbv))))
    (repeat (first | refine And.intro (Pur.mk rfl) ?_))
    ((try cbv) <;> (repeat ((with_reducible refine EW.of ?_); cbv)))
    refine R1.of ?_
    cbv
    (repeat (first | exact trivial | refine And.intro (Pur.mk rfl) ?_ | refine And.intro rfl ?_))
  · obtain ⟨q, hq⟩ : ∃ q, q = bs.length := ⟨_, rfl⟩
    have h38 := own38 A B hP bs hl h0 q hq
    unfold rdr
    refine TC1.of A _ _ T0 (T0_ok hP) (hP ▸ Try.func18) rfl _ rfl (by simp) ?_
    cbv
    ((try cbv) <;> (repeat ((with_reducible refine EW.of ?_); cbv)))
    refine ⟨Ent.of (hP ▸ Try.func38) rfl, ?_⟩
    refine TC1.call [] h38 ?_
    cbv
    (repeat (first | exact trivial | refine And.intro (Emb.Pur _ _) ?_ | refine And.intro rfl ?_))
    ((try cbv) <;> (repeat ((with_reducible refine EW.of ?_); cbv)))
    refine R1.of ?_
    cbv
    exact ⟨B.l.cut hq, B.l.Pur _, trivial⟩
theorem End34n (A : Ar) {P : Program} (hP : P = Try.prog) : TPure P 34 [.nil] (.tup [.int .i64 0, .int .i64 1]) := by
  refine TPure.ofE A T0 (T0_ok hP) (hP ▸ Try.func34) rfl _ rfl (by simp) ?_
  cbv
  ((try cbv) <;> (repeat ((with_reducible refine EW.of ?_); cbv)))
def endR (bs : List UInt8) (a : Nat) (bad : Int) : Int × Int := if 0 ≤ bad then (bad, 30) else if a < bs.length then ((a : Int), 30) else (0, 0)
theorem End34 (A : Ar) (B : EmB) {P : Program} (hP : P = Try.prog) (bs : List UInt8) (a : Nat) (bad : Int) (x y : Int) (h : endR bs a bad = (x, y)) :
    TC1 P 34 [.ref 0 3 0 0] [some (rdr B bs a bad)] (.tup [.int .i64 x, .int .i64 y]) [some (rdr B bs a bad)] := by
  refine TC1.of A _ _ T0 (T0_ok hP) (hP ▸ Try.func34) rfl _ rfl (by simp) ?_
  have hll := B.l.len bs
  unfold endR at h
  unfold rdr
  cbv
  ((try cbv) <;> (repeat ((with_reducible refine EW.of ?_); cbv)))
  by_cases h1 : 0 ≤ bad
  · rw [if_pos h1] at h
    refine byes (leT h1) ?_
    cases h
    ((try cbv) <;> (repeat ((with_reducible refine EW.of ?_); cbv)))
    refine R1.of ?_
    cbv
    (repeat (first | exact trivial | refine And.intro (Emb.Pur _ _) ?_ | refine And.intro rfl ?_))
  rw [if_neg h1] at h
  refine bno (leF (Int.not_le.1 h1)) ?_
  ((try cbv) <;> (repeat ((with_reducible refine EW.of ?_); cbv)))
  (refine TW.draw (A := A) (T0_ok hP) (hP ▸ follows_mixed) (by kernel_rfl) rfl ?_; cbv)
  ((try cbv) <;> (repeat ((with_reducible refine EW.of ?_); cbv)))
  by_cases h2 : a < bs.length
  · rw [if_pos h2] at h
    refine byes (show A.lt (a : Int) (A.len (B.l.l bs)) = true from ltT (by rw [A.ok_len, hll]; omega)) ?_
    cases h
    ((try cbv) <;> (repeat ((with_reducible refine EW.of ?_); cbv)))
    refine R1.of ?_
    cbv
    (repeat (first | exact trivial | refine And.intro (Emb.Pur _ _) ?_ | refine And.intro rfl ?_))
  rw [if_neg h2] at h
  refine bno (show A.lt (a : Int) (A.len (B.l.l bs)) = false from ltF (by rw [A.ok_len, hll]; omega)) ?_
  cases h
  ((try cbv) <;> (repeat ((with_reducible refine EW.of ?_); cbv)))
  refine R1.of ?_
  cbv
  (repeat (first | exact trivial | refine And.intro (Emb.Pur _ _) ?_ | refine And.intro rfl ?_))
/-- A number's bytes. -/
def numI (n : Int) (i : Nat) : Int := IntKind.u8.wrap ((IntKind.u64.wrap n).fdiv (2 ^ (56 - 8 * i)))
def numBs (n : Int) : List UInt8 := (List.range 8).map fun i => UInt8.ofNat (numI n i).toNat
theorem wrap_u8 (x : Int) : 0 ≤ IntKind.u8.wrap x ∧ IntKind.u8.wrap x < 256 := by
  simp only [IntKind.wrap, IntKind.signed, IntKind.bits]
  simp
  omega
theorem byte_ofInt {x : Int} (h : 0 ≤ x ∧ x < 256) : ((UInt8.ofNat x.toNat).toNat : Int) = x := by
  rw [UInt8.toNat_ofNat']
  omega
theorem sh_op (A : Ar) {j : Nat} (hj : j < 8) : A.op .sub .i64 56 (A.op .mul .i64 8 (j : Int)) = ((56 - 8 * j : Nat) : Int) := by
  rw [A.ok_mul, wrap_i64 (by omega) (by omega), sub_i64 rfl rfl (by omega) (by omega)]
  omega
theorem num_op (A : Ar) (n : Int) {j : Nat} (hj : j < 8) : A.wrap .u8 (A.op .shr .u64 (A.wrap .u64 n) (A.op .sub .i64 56 (A.op .mul .i64 8 (j : Int)))) = ((UInt8.ofNat (numI n j).toNat).toNat : Int) := by
  rw [sh_op A hj, A.ok_wrap, A.ok_shr, A.ok_wrap]
  unfold numI
  rw [byte_ofInt (wrap_u8 _)]
  have : min (((56 - 8 * j : Nat) : Int).toNat) IntKind.u64.bits = 56 - 8 * j := by
    rw [Int.toNat_natCast]
    exact Nat.min_eq_left (by show 56 - 8 * j ≤ 64; omega)
  rw [this]
theorem numBs_get (n : Int) {j : Nat} (hj : j < 8) : (numBs n)[j]? = some (UInt8.ofNat (numI n j).toNat) := by simp [numBs, hj]
theorem numBs_len (n : Int) : (numBs n).length = 8 := by simp [numBs]
def stB (B : EmB) (L : Store) : Option (Nat × List UInt8) → Store
  | none => L
  | some (_, l) => L ++ [some (.arr 1 (B.l.l l))]
def rowB (p : Nat) : Option (Nat × List UInt8) → AV
  | none => .nils
  | some (m, _) => .row p 1 0 m
def outB : Option (Nat × List UInt8) → List UInt8
  | none => []
  | some (_, l) => l
def okB : Option (Nat × List UInt8) → Prop
  | none => True
  | some (m, l) => m = l.length
set_option maxHeartbeats 1000000 in
theorem number37n (A : Ar) (B : EmB) {P : Program} (hP : P = Try.prog) (n : Int) (r : List UInt8) (hr : numBs n = r) : TC1 P 37 [.nils, .int .i64 n] [] (.row 0 1 0 8) [some (.arr 1 (B.l.l r))] := by
  refine TC1.of A _ _ T0 (T0_ok hP) (hP ▸ Try.func37) rfl _ rfl (by simp) ?_
  have hrl : r.length = 8 := by rw [← hr]; exact numBs_len n
  cbv
  ((try cbv) <;> (repeat ((with_reducible refine EW.of ?_); cbv)))
  obtain ⟨S, hS⟩ : ∃ S : LI (Nat × Option (Nat × List UInt8)), S = ⟨fun x => [(6, .int .i64 x.1), (4, .nils), (0, rowB 0 x.2), (1, .int .i64 n)], fun x => stB B [] x.2, fun x => x.1 ≤ 8 ∧ okB x.2 ∧ outB x.2 = r.take x.1, fun x => 8 - x.1⟩ := ⟨_, rfl⟩
  refine TW.loopM A (T0_ok hP) S _ rfl (0, none) ?_ ?_ ?_
  · rw [hS]; exact ⟨Nat.zero_le _, trivial, by simp [outB]⟩
  · rw [hS]; cbv; (repeat (first | exact trivial | refine And.intro (Emb.Pur _ _) ?_ | refine And.intro rfl ?_ | refine And.intro (Pur.mk rfl) ?_ | refine And.intro (Pur.mk (by assumption)) ?_))
  rintro ⟨j, o⟩ hj l1 L1 e1 e2
  rw [hS] at hj e1 e2
  dsimp only at hj e1 e2
  obtain ⟨hj, hok, hout⟩ := hj
  subst e1
  cases o with
  | none =>
    dsimp only [stB, rowB, outB, okB] at e2 hok hout ⊢
    subst e2
    cbv
    ((try cbv) <;> (repeat ((with_reducible refine EW.of ?_); cbv)))
    refine bsplit (fun h => ?_) (fun h => ?_)
    · have h : j < 8 := lt_nt (j := 8) h rfl rfl
      have hel := num_op A n h
      have hgj : r[j]? = some (UInt8.ofNat (numI n j).toNat) := by rw [← hr]; exact numBs_get n h
      generalize UInt8.ofNat (numI n j).toNat = b at hel hgj
      have htk : r.take (j + 1) = r.take j ++ [b] := by rw [List.take_add_one, hgj]; rfl
      ((try cbv) <;> (repeat ((with_reducible refine EW.of ?_); cbv)))
      refine ⟨by show 0 ≤ A.op .sub .i64 56 (A.op .mul .i64 8 (j : Int)); rw [sh_op A h]; omega, ?_⟩
      ((try cbv) <;> (repeat ((with_reducible refine EW.of ?_); cbv)))
      have hes : AV.int .u8 (A.wrap .u8 (A.op .shr .u64 (A.wrap .u64 n) (A.op .sub .i64 56 (A.op .mul .i64 8 (j : Int))))) = B.l.v b := by rw [B.ok, hel]
      obtain ⟨l1, hl1⟩ : ∃ d, d = [] ++ [b] := ⟨_, rfl⟩
      obtain ⟨q1, hq1⟩ : ∃ q, q = l1.length := ⟨_, rfl⟩
      rw [← hout, ← hl1] at htk
      have hq2 : q1 = j + 1 := by rw [hq1, ← htk]; simp; omega
      refine ⟨⟨rfl⟩, q1, B.l.l l1, by rw [hq1, hl1]; rfl, by rw [hl1, List.nil_append, B.l.cons, B.l.nil, ← hes]; rfl, Nat.zero_le _, ?_, ?_, ?_⟩
      · rw [hq1, hl1]; simp
      · rw [hq1, hl1]; simp
      cbv
      ((try cbv) <;> (repeat ((with_reducible refine EW.of ?_); cbv)))
      refine LM.of (j + 1, some (q1, l1)) rfl ?_ ?_ ?_
      · rw [hS]; exact ⟨by show j + 1 ≤ 8; omega, hq1, htk.symm⟩
      · rw [hS]; show 8 - (j + 1) < 8 - j; omega
      · rw [hS]
        cbv
        (repeat (first | exact trivial | refine And.intro (Emb.Pur _ _) ?_ | refine And.intro (inc_eq A (by omega)) ?_ | refine And.intro rfl ?_))
    · have h : 8 ≤ j := lt_nf (j := 8) h rfl rfl
      exfalso
      have := congrArg List.length hout
      simp at this
      omega
  | some x =>
    obtain ⟨m, l⟩ := x
    dsimp only [stB, rowB, outB, okB] at e2 hok hout ⊢
    have hll := B.l.len l
    have hlj : l.length ≤ 8 := by rw [hout]; simp; omega
    subst e2
    cbv
    ((try cbv) <;> (repeat ((with_reducible refine EW.of ?_); cbv)))
    refine bsplit (fun h => ?_) (fun h => ?_)
    · have h : j < 8 := lt_nt (j := 8) h rfl rfl
      have hel := num_op A n h
      have hgj : r[j]? = some (UInt8.ofNat (numI n j).toNat) := by rw [← hr]; exact numBs_get n h
      generalize UInt8.ofNat (numI n j).toNat = b at hel hgj
      have htk : r.take (j + 1) = r.take j ++ [b] := by rw [List.take_add_one, hgj]; rfl
      ((try cbv) <;> (repeat ((with_reducible refine EW.of ?_); cbv)))
      refine ⟨by show 0 ≤ A.op .sub .i64 56 (A.op .mul .i64 8 (j : Int)); rw [sh_op A h]; omega, ?_⟩
      ((try cbv) <;> (repeat ((with_reducible refine EW.of ?_); cbv)))
      have hes : AV.int .u8 (A.wrap .u8 (A.op .shr .u64 (A.wrap .u64 n) (A.op .sub .i64 56 (A.op .mul .i64 8 (j : Int))))) = B.l.v b := by rw [B.ok, hel]
      obtain ⟨l1, hl1⟩ : ∃ d, d = l ++ [b] := ⟨_, rfl⟩
      obtain ⟨q1, hq1⟩ : ∃ q, q = l1.length := ⟨_, rfl⟩
      rw [← hout, ← hl1] at htk
      have hq2 : q1 = j + 1 := by rw [hq1, ← htk]; simp; omega
      have hq3 : q1 = m + 1 := by rw [hq1, hl1, hok]; simp
      refine ⟨⟨rfl⟩, q1, B.l.l l1, hq3, by rw [hl1, B.l.app, B.l.cons, B.l.nil, ← hes, List.take_of_length_le (show (B.l.l l).length ≤ m by omega)]; rfl, (show m ≤ (B.l.l l).length by omega), by omega, by omega, ?_⟩
      cbv
      ((try cbv) <;> (repeat ((with_reducible refine EW.of ?_); cbv)))
      refine LM.of (j + 1, some (q1, l1)) rfl ?_ ?_ ?_
      · rw [hS]; exact ⟨by show j + 1 ≤ 8; omega, hq1, htk.symm⟩
      · rw [hS]; show 8 - (j + 1) < 8 - j; omega
      · rw [hS]
        cbv
        (repeat (first | exact trivial | refine And.intro (Emb.Pur _ _) ?_ | refine And.intro (inc_eq A (by omega)) ?_ | refine And.intro rfl ?_))
    · have h : 8 ≤ j := lt_nf (j := 8) h rfl rfl
      obtain rfl : l = r := by rw [hout, List.take_of_length_le (by omega)]
      obtain rfl : m = 8 := by omega
      ((try cbv) <;> (repeat ((with_reducible refine EW.of ?_); cbv)))
      refine R1.of ?_
      cbv
      (repeat (first | exact trivial | refine And.intro (Emb.Pur _ _) ?_ | refine And.intro rfl ?_))
end Go.Proofs.Ytmbbdabcbnemiaa

/-! A text put; the document's example; no reader. -/
namespace Go.Proofs.Ytmbbdabcbnemiaa
open Go.Proofs.Ytmbbdabcbnemiaa.Tw
theorem EmB.bytes (B : EmB) (l : List UInt8) : B.l.l l = bytesAV l := by rw [B.l.ok, B.ok]; rfl
theorem text39n (A : Ar) (B : EmB) {P : Program} (hP : P = Try.prog) (s : ByteArray) (hs : s.size ≤ 1000000000) (r : List UInt8) (hr : numBs s.size ++ s.data.toList = r) (q : Nat) (hq : q = r.length) : TC1 P 39 [.nils, .str s] [] (.row 0 1 0 q) [some (.arr 1 (B.l.l r))] := by
  refine TC1.of A _ _ T0 (T0_ok hP) (hP ▸ Try.func39) rfl _ rfl (by simp) ?_
  have h37 := number37n A B hP (A.slen s) _ rfl
  have h8 := numBs_len (A.slen s)
  rw [A.ok_slen] at h8
  obtain ⟨r8, hr8⟩ : ∃ r8, r8 = numBs (A.slen s) := ⟨_, rfl⟩
  rw [← hr8] at h37
  rw [A.ok_slen] at hr8
  rw [← hr8] at hr h8
  have hl8 := B.l.len r8
  have hrl : r.length = 8 + s.size := by rw [← hr, List.length_append, h8, Array.length_toList]; rfl
  cbv
  ((try cbv) <;> (repeat ((with_reducible refine EW.of ?_); cbv)))
  refine ⟨Ent.of (hP ▸ Try.func37) rfl, ?_⟩
  refine TC1.call [] h37 ?_
  cbv
  (repeat (first | exact trivial | refine And.intro (Emb.Pur _ _) ?_ | refine And.intro rfl ?_))
  ((try cbv) <;> (repeat ((with_reducible refine EW.of ?_); cbv)))
  refine ⟨q, B.l.l r, by omega, by rw [List.take_of_length_le (by omega), ← hr, B.l.app, B.bytes s.data.toList], by omega, by omega, ?_⟩
  cbv
  ((try cbv) <;> (repeat ((with_reducible refine EW.of ?_); cbv)))
  refine R1.of ?_
  cbv
  (repeat (first | exact trivial | refine And.intro (Emb.Pur _ _) ?_ | refine And.intro rfl ?_))
theorem Text12n (A : Ar) (B : EmB) {P : Program} (hP : P = Try.prog) (s : ByteArray) (hs : s.size ≤ 1000000000) (r : List UInt8) (hr : numBs s.size ++ s.data.toList = r) : TPure P 12 [.nils, .str s] (.sl 1 (B.l.l r)) := by
  refine TPure.ofE A T0 (T0_ok hP) (hP ▸ Try.func12) rfl _ rfl (by simp) ?_
  obtain ⟨q, hq⟩ : ∃ q, q = r.length := ⟨_, rfl⟩
  have h39 := text39n A B hP s hs r hr q hq
  have h38 := own38n A hP
  cbv
  ((try cbv) <;> (repeat ((with_reducible refine EW.of ?_); cbv)))
  (refine ⟨Ent.of (hP ▸ Try.func38) rfl, ?_⟩; refine TC.pureE h38 ?_; cbv; (repeat (first | exact trivial | refine And.intro (Emb.Pur _ _) ?_ | refine And.intro rfl ?_ | refine And.intro (Pur.mk rfl) ?_ | refine And.intro (Pur.mk (by assumption)) ?_)); ((try cbv) <;> (repeat ((with_reducible refine EW.of ?_); cbv))))
  refine ⟨Ent.of (hP ▸ Try.func39) rfl, ?_⟩
  refine TC1.call [] h39 ?_
  cbv
  (repeat (first | exact trivial | refine And.intro (Emb.Pur _ _) ?_ | refine And.intro rfl ?_))
  ((try cbv) <;> (repeat ((with_reducible refine EW.of ?_); cbv)))
  exact And.intro (B.l.cut hq) (And.intro (B.l.Pur _) trivial)
/-! The reader's exported methods. -/
def askR {α : Type} (z : α) (bs : List UInt8) (a : Nat) (bad : Int) (r : RR α) : α × Nat × Int :=
  if 0 ≤ bad then (z, a, bad) else match r with
    | .ok v a2 => (v, a2, bad)
    | .no e a2 => (z, a2, e)
theorem Number20n (A : Ar) {P : Program} (hP : P = Try.prog) : TPure P 20 [.nil] (.int .i64 0) := by
  refine TPure.ofE A T0 (T0_ok hP) (hP ▸ Try.func20) rfl _ rfl (by simp) ?_
  have h := askI_nil A hP 43
  cbv
  ((try cbv) <;> (repeat ((with_reducible refine EW.of ?_); cbv)))
  (refine ⟨Ent.of (hP ▸ Try.func42) rfl, ?_⟩; refine TC.pureE h ?_; cbv; (repeat (first | exact trivial | refine And.intro (Emb.Pur _ _) ?_ | refine And.intro rfl ?_ | refine And.intro (Pur.mk rfl) ?_ | refine And.intro (Pur.mk (by assumption)) ?_)); ((try cbv) <;> (repeat ((with_reducible refine EW.of ?_); cbv))))
theorem Small22n (A : Ar) {P : Program} (hP : P = Try.prog) : TPure P 22 [.nil] (.int .i8 0) := by
  refine TPure.ofE A T0 (T0_ok hP) (hP ▸ Try.func22) rfl _ rfl (by simp) ?_
  have h := askS_nil A hP 46
  cbv
  ((try cbv) <;> (repeat ((with_reducible refine EW.of ?_); cbv)))
  (refine ⟨Ent.of (hP ▸ Try.func45) rfl, ?_⟩; refine TC.pureE h ?_; cbv; (repeat (first | exact trivial | refine And.intro (Emb.Pur _ _) ?_ | refine And.intro rfl ?_ | refine And.intro (Pur.mk rfl) ?_ | refine And.intro (Pur.mk (by assumption)) ?_)); ((try cbv) <;> (repeat ((with_reducible refine EW.of ?_); cbv))))
theorem Text24n (A : Ar) {P : Program} (hP : P = Try.prog) : TPure P 24 [.nil] (.str ⟨#[]⟩) := by
  refine TPure.ofE A T0 (T0_ok hP) (hP ▸ Try.func24) rfl _ rfl (by simp) ?_
  have h := askT_nil A hP 48
  cbv
  ((try cbv) <;> (repeat ((with_reducible refine EW.of ?_); cbv)))
  (refine ⟨Ent.of (hP ▸ Try.func47) rfl, ?_⟩; refine TC.pureE h ?_; cbv; (repeat (first | exact trivial | refine And.intro (Emb.Pur _ _) ?_ | refine And.intro rfl ?_ | refine And.intro (Pur.mk rfl) ?_ | refine And.intro (Pur.mk (by assumption)) ?_)); ((try cbv) <;> (repeat ((with_reducible refine EW.of ?_); cbv))))
set_option maxHeartbeats 1000000 in
theorem Number20 (A : Ar) (B : EmB) {P : Program} (hP : P = Try.prog) (bs : List UInt8) (hl : bs.length ≤ 1000000000) (a : Nat) (ha : a ≤ bs.length) (bad : Int) (v : Int) (a2 : Nat) (bad2 : Int) (h : askR 0 bs a bad (numR A bs a) = (v, a2, bad2)) :
    TC1 P 20 [.ref 0 3 0 0] [some (rdr B bs a bad)] (.int .i64 v) [some (rdr B bs a2 bad2)] := by
  have hg : TCX P 42 [.ref 0 3 0 0, .func (.func 43) [.ref 0 3 0 0] []] [some (rdr B bs a bad)] (.ret (.int .i64 v)) [some (rdr B bs a2 bad2)] := by
    have h43 := number43 A B hP bs hl a ha bad
    unfold askR at h
    by_cases h0 : 0 ≤ bad
    · rw [if_pos h0] at h
      cases h
      exact askI_bad A B hP bs a bad h0 _
    · rw [if_neg h0] at h
      generalize numR A bs a = r at h h43
      cases r with
      | ok v a2 => cases h; exact askI_number_ok A B hP bs a _ bad (by omega) _ h43
      | no e a2 => cases h; exact askI_number_no A B hP bs a _ bad _ (by omega) h43
  unfold rdr at *
  refine TC1.of A _ _ T0 (T0_ok hP) (hP ▸ Try.func20) rfl _ rfl (by simp) ?_
  cbv
  ((try cbv) <;> (repeat ((with_reducible refine EW.of ?_); cbv)))
  refine ⟨Ent.of (hP ▸ Try.func42) rfl, ?_⟩
  refine TCX.call [0] hg ?_
  cbv
  (repeat (first | exact trivial | refine And.intro (Emb.Pur _ _) ?_ | refine And.intro rfl ?_))
  ((try cbv) <;> (repeat ((with_reducible refine EW.of ?_); cbv)))
  refine R1.of ?_
  cbv
  (repeat (first | exact trivial | refine And.intro (Emb.Pur _ _) ?_ | refine And.intro rfl ?_))
end Go.Proofs.Ytmbbdabcbnemiaa

/-! No reader; the document's example. -/
namespace Go.Proofs.Ytmbbdabcbnemiaa
open Go.Proofs.Ytmbbdabcbnemiaa.Tw
def nodeZ : AV := .agg [.int .i64 0, .int .i64 0, .str ⟨#[]⟩, .nils]
theorem askN_nil (A : Ar) {P : Program} (hP : P = Try.prog) (g : FuncId) : TPure P 49 [.nil, .func (.func g) [.nil] []] nodeZ := by
  have h : TCX P 49 [.nil, .func (.func g) [.nil] []] [] (.ret nodeZ) [] := by
    unfold nodeZ
    refine TCX.ofD A _ _ T0 (T0_ok hP) (hP ▸ Try.func49) rfl _ rfl (by simp) ?_
    refine EWD.seq ?_
    cbv
    refine EWD.seq ?_
    cbv
    ((try cbv) <;> (repeat ((with_reducible refine EW.of ?_); cbv)))
    refine R1.of ?_
    cbv
    (repeat (first | exact trivial | refine And.intro (Emb.Pur _ _) ?_ | refine And.intro rfl ?_ | refine And.intro (Pur.mk rfl) ?_ | refine And.intro (Pur.mk (by assumption)) ?_))
  exact TPure.of h
theorem Node26n (A : Ar) {P : Program} (hP : P = Try.prog) : TPure P 26 [.nil] nodeZ := by
  unfold nodeZ
  refine TPure.ofE A T0 (T0_ok hP) (hP ▸ Try.func26) rfl _ rfl (by simp) ?_
  have h := askN_nil A hP 50
  unfold nodeZ at h
  cbv
  ((try cbv) <;> (repeat ((with_reducible refine EW.of ?_); cbv)))
  (refine ⟨Ent.of (hP ▸ Try.func49) rfl, ?_⟩; refine TC.pureE h ?_; cbv; (repeat (first | exact trivial | refine And.intro (Emb.Pur _ _) ?_ | refine And.intro rfl ?_ | refine And.intro (Pur.mk rfl) ?_ | refine And.intro (Pur.mk (by assumption)) ?_)); ((try cbv) <;> (repeat ((with_reducible refine EW.of ?_); cbv))))
theorem askL_nil (A : Ar) {P : Program} (hP : P = Try.prog) (g : FuncId) : TCX P 52 [.nil, .func (.func g) [] [.ref 0 1 0 0]] [some (.box 1 .nil)] (.ret .nils) [some (.box 1 .nil)] := by
  refine TCX.ofD A _ _ T0 (T0_ok hP) (hP ▸ Try.func52) rfl _ rfl (by simp) ?_
  refine EWD.seq ?_
  cbv
  refine EWD.seq ?_
  cbv
  ((try cbv) <;> (repeat ((with_reducible refine EW.of ?_); cbv)))
  refine R1.of ?_
  cbv
  (repeat (first | exact trivial | refine And.intro (Emb.Pur _ _) ?_ | refine And.intro rfl ?_ | refine And.intro (Pur.mk rfl) ?_ | refine And.intro (Pur.mk (by assumption)) ?_))
theorem Steps29n (A : Ar) {P : Program} (hP : P = Try.prog) : TPure P 29 [.nil] .nils := by
  refine TPure.ofE A T0 (T0_ok hP) (hP ▸ Try.func29) rfl _ rfl (by simp) ?_
  have h := askL_nil A hP 53
  cbv
  ((try cbv) <;> (repeat ((with_reducible refine EW.of ?_); cbv)))
  refine ⟨Ent.of (hP ▸ Try.func52) rfl, ?_⟩
  refine TCX.call [0] h ?_
  cbv
  (repeat (first | exact trivial | refine And.intro (Emb.Pur _ _) ?_ | refine And.intro rfl ?_ | refine And.intro (Pur.mk rfl) ?_ | refine And.intro (Pur.mk (by assumption)) ?_))
  ((try cbv) <;> (repeat ((with_reducible refine EW.of ?_); cbv)))
theorem askC_nil (A : Ar) {P : Program} (hP : P = Try.prog) (g : FuncId) (x y : Int) : TCX P 42 [.nil, .func (.func g) [] [.ref 0 1 0 0, .ref 1 1 0 0, .ref 2 1 0 0]] [some (.box 1 .nil), some (.box 1 (.int .i64 x)), some (.box 1 (.int .i64 y))] (.ret (.int .i64 0)) [some (.box 1 .nil), some (.box 1 (.int .i64 x)), some (.box 1 (.int .i64 y))] := by
  refine TCX.ofD A _ _ T0 (T0_ok hP) (hP ▸ Try.func42) rfl _ rfl (by simp) ?_
  refine EWD.seq ?_
  cbv
  refine EWD.seq ?_
  cbv
  ((try cbv) <;> (repeat ((with_reducible refine EW.of ?_); cbv)))
  refine R1.of ?_
  cbv
  (repeat (first | exact trivial | refine And.intro (Emb.Pur _ _) ?_ | refine And.intro rfl ?_ | refine And.intro (Pur.mk rfl) ?_ | refine And.intro (Pur.mk (by assumption)) ?_))
theorem Count32n (A : Ar) {P : Program} (hP : P = Try.prog) (x y : Int) : TPure P 32 [.nil, .int .i64 x, .int .i64 y] (.int .i64 0) := by
  refine TPure.ofE A T0 (T0_ok hP) (hP ▸ Try.func32) rfl _ rfl (by simp) ?_
  have h := askC_nil A hP 59 x y
  cbv
  ((try cbv) <;> (repeat ((with_reducible refine EW.of ?_); cbv)))
  refine ⟨Ent.of (hP ▸ Try.func42) rfl, ?_⟩
  refine TCX.call [0, 1, 2] h ?_
  cbv
  (repeat (first | exact trivial | refine And.intro (Emb.Pur _ _) ?_ | refine And.intro rfl ?_ | refine And.intro (Pur.mk rfl) ?_ | refine And.intro (Pur.mk (by assumption)) ?_))
  ((try cbv) <;> (repeat ((with_reducible refine EW.of ?_); cbv)))
theorem seq_self (A : Ar) (s : ByteArray) : A.seq s s = true := by rw [A.ok_seq]; simp [strEq]
theorem step0 (A : Ar) : stepN A 0 0 = 0 := by
  unfold stepN
  rw [A.ok_or, A.ok_shl, A.ok_wrap]
  rfl
theorem fold0 (A : Ar) : ∀ n : Nat, foldN A 0 (List.replicate n 0) = 0
  | 0 => rfl
  | n + 1 => by
    rw [List.replicate_succ]
    show foldN A (stepN A 0 0) (List.replicate n 0) = 0
    rw [step0]
    exact fold0 A n
set_option maxHeartbeats 1000000 in
theorem wakes9 (A : Ar) (B : EmB) {P : Program} (hP : P = Try.prog) : TPure P 9 [] (.bool true) := by
  refine TPure.ofE A T0 (T0_ok hP) (hP ▸ Try.func9) rfl _ rfl (by simp) ?_
  obtain ⟨b7, hb7⟩ : ∃ l, l = List.replicate 7 (0 : UInt8) := ⟨_, rfl⟩
  obtain ⟨b9, hb9⟩ : ∃ l, l = List.replicate 9 (0 : UInt8) := ⟨_, rfl⟩
  have hl7 : b7.length = 7 := by rw [hb7]; rfl
  have hl9 : b9.length = 9 := by rw [hb9]; rfl
  have hv7 : B.l.l b7 = List.replicate 7 (.int .u8 0) := by rw [hb7, B.bytes]; rfl
  have hv9 : B.l.l b9 = List.replicate 9 (.int .u8 0) := by rw [hb9, B.bytes]; rfl
  have h18a := New18 A B hP b7 (by omega)
  have h18b := New18 A B hP b9 (by omega)
  have h20a := Number20 A B hP b7 (by omega) 0 (by omega) (-1) 0 0 7 (by unfold askR numR takeR; rw [if_neg (by decide), if_neg (by omega), hl7]; rfl)
  have h20b := Number20 A B hP b9 (by omega) 0 (by omega) (-1) 0 8 (-1) (by
    unfold askR numR takeR
    rw [if_neg (by decide), if_pos (by omega)]
    have : (b9.drop 0).take 8 = List.replicate 8 0 := by rw [hb9]; rfl
    simp only [RR.bind, this, fold0]
    rw [A.ok_wrap]
    rfl)
  obtain ⟨r, hr⟩ : ∃ r : List UInt8, r = [0, 0, 0, 0, 0, 0, 0, 2, 97, 98] := ⟨_, rfl⟩
  have h12 := Text12n A B hP ⟨#[97, 98]⟩ (by decide) r (by rw [hr]; decide)
  have h34a := End34 A B hP b7 0 7 7 30 (by unfold endR; rw [if_pos (by decide)])
  have h34b := End34 A B hP b9 8 (-1) 8 30 (by unfold endR; rw [if_neg (by decide), if_pos (by omega)]; rfl)
  cbv
  ((try cbv) <;> (repeat ((with_reducible refine EW.of ?_); cbv)))
  refine ⟨by decide, ?_⟩
  refine ⟨Ent.of (hP ▸ Try.func18) rfl, ?_⟩
  refine TC1.call [] h18a ?_
  cbv
  (repeat (first | exact trivial | refine And.intro hv7.symm ?_ | refine And.intro hv9.symm ?_ | refine And.intro (Emb.Pur _ _) ?_ | refine And.intro rfl ?_))
  ((try cbv) <;> (repeat ((with_reducible refine EW.of ?_); cbv)))
  refine ⟨by decide, ?_⟩
  refine ⟨Ent.of (hP ▸ Try.func18) rfl, ?_⟩
  refine TC1.call [] h18b ?_
  cbv
  (repeat (first | exact trivial | refine And.intro hv7.symm ?_ | refine And.intro hv9.symm ?_ | refine And.intro (Emb.Pur _ _) ?_ | refine And.intro rfl ?_))
  ((try cbv) <;> (repeat ((with_reducible refine EW.of ?_); cbv)))
  refine ⟨Ent.of (hP ▸ Try.func20) rfl, ?_⟩
  refine TC1.call [0] h20a ?_
  cbv
  (repeat (first | exact trivial | refine And.intro hv7.symm ?_ | refine And.intro hv9.symm ?_ | refine And.intro (Emb.Pur _ _) ?_ | refine And.intro rfl ?_))
  ((try cbv) <;> (repeat ((with_reducible refine EW.of ?_); cbv)))
  (first | refine bno (neF rfl) ?_ | refine bno (nbF rfl) ?_)
  ((try cbv) <;> (repeat ((with_reducible refine EW.of ?_); cbv)))
  refine ⟨Ent.of (hP ▸ Try.func20) rfl, ?_⟩
  refine TC1.call [1] h20b ?_
  cbv
  (repeat (first | exact trivial | refine And.intro hv7.symm ?_ | refine And.intro hv9.symm ?_ | refine And.intro (Emb.Pur _ _) ?_ | refine And.intro rfl ?_))
  ((try cbv) <;> (repeat ((with_reducible refine EW.of ?_); cbv)))
  (first | refine bno (neF rfl) ?_ | refine bno (nbF rfl) ?_)
  ((try cbv) <;> (repeat ((with_reducible refine EW.of ?_); cbv)))
  refine ⟨Ent.of (hP ▸ Try.func34) rfl, ?_⟩
  refine TC1.call [0] h34a ?_
  cbv
  (repeat (first | exact trivial | refine And.intro hv7.symm ?_ | refine And.intro hv9.symm ?_ | refine And.intro (Emb.Pur _ _) ?_ | refine And.intro rfl ?_))
  ((try cbv) <;> (repeat ((with_reducible refine EW.of ?_); cbv)))
  refine ⟨Ent.of (hP ▸ Try.func34) rfl, ?_⟩
  refine TC1.call [1] h34b ?_
  cbv
  (repeat (first | exact trivial | refine And.intro hv7.symm ?_ | refine And.intro hv9.symm ?_ | refine And.intro (Emb.Pur _ _) ?_ | refine And.intro rfl ?_))
  ((try cbv) <;> (repeat ((with_reducible refine EW.of ?_); cbv)))
  (first | refine byes (eqT rfl) ?_ | refine byes (beqT rfl) ?_)
  ((try cbv) <;> (repeat ((with_reducible refine EW.of ?_); cbv)))
  (first | refine byes (eqT rfl) ?_ | refine byes (beqT rfl) ?_)
  ((try cbv) <;> (repeat ((with_reducible refine EW.of ?_); cbv)))
  (first | refine byes (eqT rfl) ?_ | refine byes (beqT rfl) ?_)
  ((try cbv) <;> (repeat ((with_reducible refine EW.of ?_); cbv)))
  (first | refine byes (eqT rfl) ?_ | refine byes (beqT rfl) ?_)
  ((try cbv) <;> (repeat ((with_reducible refine EW.of ?_); cbv)))
  (refine ⟨Ent.of (hP ▸ Try.func12) rfl, ?_⟩; refine TC.pureE h12 ?_; cbv; (repeat (first | exact trivial | refine And.intro (Emb.Pur _ _) ?_ | refine And.intro rfl ?_ | refine And.intro (Pur.mk rfl) ?_ | refine And.intro (Pur.mk (by assumption)) ?_)); ((try cbv) <;> (repeat ((with_reducible refine EW.of ?_); cbv))))
  refine ⟨r, B.bytes r, ?_⟩
  cbv
  ((try cbv) <;> (repeat ((with_reducible refine EW.of ?_); cbv)))
  exact And.intro (by rw [hr]; exact seq_self A _) trivial
set_option maxHeartbeats 1000000 in
theorem lawNil (A : Ar) (B : EmB) {P : Program} (hP : P = Try.prog) (x y : Int) : TPure P 5 [.int .i64 x, .int .i64 y] (.bool true) := by
  refine TPure.ofE A T0 (T0_ok hP) (hP ▸ Try.func5) rfl _ rfl (by simp) ?_
  have h34 := End34n A hP
  have h26 := Node26n A hP
  unfold nodeZ at h26
  have h20 := Number20n A hP
  have h22 := Small22n A hP
  have h24 := Text24n A hP
  have h29 := Steps29n A hP
  have h32 := Count32n A hP x y
  have h9 := wakes9 A B hP
  cbv
  ((try cbv) <;> (repeat ((with_reducible refine EW.of ?_); cbv)))
  (refine ⟨Ent.of (hP ▸ Try.func34) rfl, ?_⟩; refine TC.pureE h34 ?_; cbv; (repeat (first | exact trivial | refine And.intro (Emb.Pur _ _) ?_ | refine And.intro rfl ?_ | refine And.intro (Pur.mk rfl) ?_ | refine And.intro (Pur.mk (by assumption)) ?_)); ((try cbv) <;> (repeat ((with_reducible refine EW.of ?_); cbv))))
  (refine ⟨Ent.of (hP ▸ Try.func26) rfl, ?_⟩; refine TC.pureE h26 ?_; cbv; (repeat (first | exact trivial | refine And.intro (Emb.Pur _ _) ?_ | refine And.intro rfl ?_ | refine And.intro (Pur.mk rfl) ?_ | refine And.intro (Pur.mk (by assumption)) ?_)); ((try cbv) <;> (repeat ((with_reducible refine EW.of ?_); cbv))))
  (refine ⟨Ent.of (hP ▸ Try.func20) rfl, ?_⟩; refine TC.pureE h20 ?_; cbv; (repeat (first | exact trivial | refine And.intro (Emb.Pur _ _) ?_ | refine And.intro rfl ?_ | refine And.intro (Pur.mk rfl) ?_ | refine And.intro (Pur.mk (by assumption)) ?_)); ((try cbv) <;> (repeat ((with_reducible refine EW.of ?_); cbv))))
  (first | refine byes (eqT rfl) ?_ | refine byes (beqT rfl) ?_)
  cbv
  (refine ⟨Ent.of (hP ▸ Try.func22) rfl, ?_⟩; refine TC.pureE h22 ?_; cbv; (repeat (first | exact trivial | refine And.intro (Emb.Pur _ _) ?_ | refine And.intro rfl ?_ | refine And.intro (Pur.mk rfl) ?_ | refine And.intro (Pur.mk (by assumption)) ?_)); ((try cbv) <;> (repeat ((with_reducible refine EW.of ?_); cbv))))
  (first | refine byes (eqT rfl) ?_ | refine byes (beqT rfl) ?_)
  cbv
  (refine ⟨Ent.of (hP ▸ Try.func24) rfl, ?_⟩; refine TC.pureE h24 ?_; cbv; (repeat (first | exact trivial | refine And.intro (Emb.Pur _ _) ?_ | refine And.intro rfl ?_ | refine And.intro (Pur.mk rfl) ?_ | refine And.intro (Pur.mk (by assumption)) ?_)); ((try cbv) <;> (repeat ((with_reducible refine EW.of ?_); cbv))))
  refine byes (seq_self A _) ?_
  cbv
  ((try cbv) <;> (repeat ((with_reducible refine EW.of ?_); cbv)))
  (first | refine byes (eqT rfl) ?_ | refine byes (beqT rfl) ?_)
  cbv
  ((try cbv) <;> (repeat ((with_reducible refine EW.of ?_); cbv)))
  (first | refine byes (eqT rfl) ?_ | refine byes (beqT rfl) ?_)
  cbv
  (refine ⟨Ent.of (hP ▸ Try.func29) rfl, ?_⟩; refine TC.pureE h29 ?_; cbv; (repeat (first | exact trivial | refine And.intro (Emb.Pur _ _) ?_ | refine And.intro rfl ?_ | refine And.intro (Pur.mk rfl) ?_ | refine And.intro (Pur.mk (by assumption)) ?_)); ((try cbv) <;> (repeat ((with_reducible refine EW.of ?_); cbv))))
  (first | refine byes (eqT rfl) ?_ | refine byes (beqT rfl) ?_)
  cbv
  (refine ⟨Ent.of (hP ▸ Try.func32) rfl, ?_⟩; refine TC.pureE h32 ?_; cbv; (repeat (first | exact trivial | refine And.intro (Emb.Pur _ _) ?_ | refine And.intro rfl ?_ | refine And.intro (Pur.mk rfl) ?_ | refine And.intro (Pur.mk (by assumption)) ?_)); ((try cbv) <;> (repeat ((with_reducible refine EW.of ?_); cbv))))
  (first | refine byes (eqT rfl) ?_ | refine byes (beqT rfl) ?_)
  cbv
  ((try cbv) <;> (repeat ((with_reducible refine EW.of ?_); cbv)))
  (first | refine byes (eqT rfl) ?_ | refine byes (beqT rfl) ?_)
  cbv
  ((try cbv) <;> (repeat ((with_reducible refine EW.of ?_); cbv)))
  (first | refine byes (eqT rfl) ?_ | refine byes (beqT rfl) ?_)
  cbv
  (refine ⟨Ent.of (hP ▸ Try.func9) rfl, ?_⟩; refine TC.pureE h9 ?_; cbv; (repeat (first | exact trivial | refine And.intro (Emb.Pur _ _) ?_ | refine And.intro rfl ?_ | refine And.intro (Pur.mk rfl) ?_ | refine And.intro (Pur.mk (by assumption)) ?_)); ((try cbv) <;> (repeat ((with_reducible refine EW.of ?_); cbv))))
end Go.Proofs.Ytmbbdabcbnemiaa

/-! Numbers and texts behind bytes. -/
namespace Go.Proofs.Ytmbbdabcbnemiaa
open Go.Proofs.Ytmbbdabcbnemiaa.Tw
def stB2 (B : EmB) (xs : List UInt8) : Option (Nat × List UInt8) → Store
  | none => [some (.arr 1 (B.l.l xs))]
  | some (_, l) => [none, some (.arr 1 (B.l.l l))]
def rowB2 (k : Nat) : Option (Nat × List UInt8) → AV
  | none => .row 0 1 0 k
  | some (m, _) => .row 1 1 0 m
def outB2 (xs : List UInt8) : Option (Nat × List UInt8) → List UInt8
  | none => xs
  | some (_, l) => l
set_option maxHeartbeats 1000000 in
theorem number37r (A : Ar) (B : EmB) {P : Program} (hP : P = Try.prog) (xs : List UInt8) (k : Nat) (hk : k = xs.length) (n : Int) (r : List UInt8) (hr : xs ++ numBs n = r) (q : Nat) (hq : q = r.length) (hb : q ≤ 1000000000) : TC1 P 37 [.row 0 1 0 k, .int .i64 n] [some (.arr 1 (B.l.l xs))] (.row 1 1 0 q) [none, some (.arr 1 (B.l.l r))] := by
  refine TC1.of A _ _ T0 (T0_ok hP) (hP ▸ Try.func37) rfl _ rfl (by simp) ?_
  have hrl : r.length = k + 8 := by rw [← hr, List.length_append, numBs_len, hk]
  have hxr : r.take k = xs := by rw [← hr, hk, List.take_left]
  have hrg : ∀ j, j < 8 → r[k + j]? = some (UInt8.ofNat (numI n j).toNat) := fun j hj => by
    rw [← hr, List.getElem?_append_right (by omega), show k + j - xs.length = j by omega]; exact numBs_get n hj
  clear hr
  have hbx := B.l.len xs
  cbv
  ((try cbv) <;> (repeat ((with_reducible refine EW.of ?_); cbv)))
  obtain ⟨S, hS⟩ : ∃ S : LI (Nat × Option (Nat × List UInt8)), S = ⟨fun x => [(6, .int .i64 x.1), (4, .nils), (0, rowB2 k x.2), (1, .int .i64 n)], fun x => stB2 B xs x.2, fun x => x.1 ≤ 8 ∧ okB x.2 ∧ outB2 xs x.2 = r.take (k + x.1), fun x => 8 - x.1⟩ := ⟨_, rfl⟩
  refine TW.loopM A (T0_ok hP) S _ rfl (0, none) ?_ ?_ ?_
  · rw [hS]; exact ⟨Nat.zero_le _, trivial, hxr.symm⟩
  · rw [hS]
    cbv
    (repeat (first | exact trivial | refine And.intro (Emb.Pur _ _) ?_ | refine And.intro rfl ?_))
  rintro ⟨j, o⟩ hj l1 L1 e1 e2
  rw [hS] at hj e1 e2
  dsimp only at hj e1 e2
  obtain ⟨hj, hok, hout⟩ := hj
  subst e1
  cases o with
  | none =>
    dsimp only [stB2, rowB2, outB2, okB] at e2 hok hout ⊢
    obtain ⟨cur, hcur⟩ : ∃ c, c = xs := ⟨_, rfl⟩
    obtain ⟨curn, hcn⟩ : ∃ c, c = k := ⟨_, rfl⟩
    have hcl : cur.length = curn := by rw [hcur, hcn, hk]
    rw [← hcur] at hout
    rw [← hcur] at e2
    rw [← hcn]
    subst e2
    cbv
    ((try cbv) <;> (repeat ((with_reducible refine EW.of ?_); cbv)))
    refine bsplit (fun h => ?_) (fun h => ?_)
    · have h : j < 8 := lt_nt (j := 8) h rfl rfl
      have hel := num_op A n h
      have hgj : r[k + j]? = some (UInt8.ofNat (numI n j).toNat) := hrg j h
      generalize UInt8.ofNat (numI n j).toNat = b at hel hgj
      have htk : r.take (k + j + 1) = r.take (k + j) ++ [b] := by rw [List.take_add_one, hgj]; rfl
      ((try cbv) <;> (repeat ((with_reducible refine EW.of ?_); cbv)))
      refine ⟨by show 0 ≤ A.op .sub .i64 56 (A.op .mul .i64 8 (j : Int)); rw [sh_op A h]; omega, ?_⟩
      ((try cbv) <;> (repeat ((with_reducible refine EW.of ?_); cbv)))
      have hes : AV.int .u8 (A.wrap .u8 (A.op .shr .u64 (A.wrap .u64 n) (A.op .sub .i64 56 (A.op .mul .i64 8 (j : Int))))) = B.l.v b := by rw [B.ok, hel]
      obtain ⟨l1, hl1⟩ : ∃ d, d = cur ++ [b] := ⟨_, rfl⟩
      obtain ⟨q1, hq1⟩ : ∃ q, q = l1.length := ⟨_, rfl⟩
      rw [← hout, ← hl1] at htk
      have hq2 : q1 = k + j + 1 := by rw [hq1, ← htk, List.length_take]; omega
      have hq3 : q1 = curn + 1 := by rw [hq1, hl1, List.length_append, hcl]; rfl
      refine ⟨⟨rfl⟩, q1, B.l.l l1, hq3, by rw [hl1, B.l.app, B.l.cons, B.l.nil, ← hes, List.take_of_length_le (show (B.l.l cur).length ≤ curn by rw [B.l.len]; omega)]; rfl, (show curn ≤ (B.l.l cur).length by rw [B.l.len]; omega), by omega, by omega, ?_⟩
      cbv
      ((try cbv) <;> (repeat ((with_reducible refine EW.of ?_); cbv)))
      refine LM.of (j + 1, some (q1, l1)) rfl ?_ ?_ ?_
      · rw [hS]; exact ⟨by show j + 1 ≤ 8; omega, hq1, htk.symm⟩
      · rw [hS]; show 8 - (j + 1) < 8 - j; omega
      · rw [hS]
        cbv
        (repeat (first | exact trivial | refine And.intro (Emb.Pur _ _) ?_ | refine And.intro (inc_eq A (by omega)) ?_ | refine And.intro rfl ?_))
    · have h : 8 ≤ j := lt_nf (j := 8) h rfl rfl
      exfalso
      have := congrArg List.length hout
      rw [List.length_take] at this
      omega
  | some x =>
    obtain ⟨curn, cur⟩ := x
    dsimp only [stB2, rowB2, outB2, okB] at e2 hok hout ⊢
    have hcl : cur.length = curn := hok.symm
    subst e2
    cbv
    ((try cbv) <;> (repeat ((with_reducible refine EW.of ?_); cbv)))
    refine bsplit (fun h => ?_) (fun h => ?_)
    · have h : j < 8 := lt_nt (j := 8) h rfl rfl
      have hel := num_op A n h
      have hgj : r[k + j]? = some (UInt8.ofNat (numI n j).toNat) := hrg j h
      generalize UInt8.ofNat (numI n j).toNat = b at hel hgj
      have htk : r.take (k + j + 1) = r.take (k + j) ++ [b] := by rw [List.take_add_one, hgj]; rfl
      ((try cbv) <;> (repeat ((with_reducible refine EW.of ?_); cbv)))
      refine ⟨by show 0 ≤ A.op .sub .i64 56 (A.op .mul .i64 8 (j : Int)); rw [sh_op A h]; omega, ?_⟩
      ((try cbv) <;> (repeat ((with_reducible refine EW.of ?_); cbv)))
      have hes : AV.int .u8 (A.wrap .u8 (A.op .shr .u64 (A.wrap .u64 n) (A.op .sub .i64 56 (A.op .mul .i64 8 (j : Int))))) = B.l.v b := by rw [B.ok, hel]
      obtain ⟨l1, hl1⟩ : ∃ d, d = cur ++ [b] := ⟨_, rfl⟩
      obtain ⟨q1, hq1⟩ : ∃ q, q = l1.length := ⟨_, rfl⟩
      rw [← hout, ← hl1] at htk
      have hq2 : q1 = k + j + 1 := by rw [hq1, ← htk, List.length_take]; omega
      have hq3 : q1 = curn + 1 := by rw [hq1, hl1, List.length_append, hcl]; rfl
      refine ⟨⟨rfl⟩, q1, B.l.l l1, hq3, by rw [hl1, B.l.app, B.l.cons, B.l.nil, ← hes, List.take_of_length_le (show (B.l.l cur).length ≤ curn by rw [B.l.len]; omega)]; rfl, (show curn ≤ (B.l.l cur).length by rw [B.l.len]; omega), by omega, by omega, ?_⟩
      cbv
      ((try cbv) <;> (repeat ((with_reducible refine EW.of ?_); cbv)))
      refine LM.of (j + 1, some (q1, l1)) rfl ?_ ?_ ?_
      · rw [hS]; exact ⟨by show j + 1 ≤ 8; omega, hq1, htk.symm⟩
      · rw [hS]; show 8 - (j + 1) < 8 - j; omega
      · rw [hS]
        cbv
        (repeat (first | exact trivial | refine And.intro (Emb.Pur _ _) ?_ | refine And.intro (inc_eq A (by omega)) ?_ | refine And.intro rfl ?_))
    · have h : 8 ≤ j := lt_nf (j := 8) h rfl rfl
      obtain rfl : cur = r := by rw [hout, List.take_of_length_le (by omega)]
      obtain rfl : curn = q := by omega
      ((try cbv) <;> (repeat ((with_reducible refine EW.of ?_); cbv)))
      refine R1.of ?_
      cbv
      (repeat (first | exact trivial | refine And.intro (Emb.Pur _ _) ?_ | refine And.intro rfl ?_))
theorem text39r (A : Ar) (B : EmB) {P : Program} (hP : P = Try.prog) (xs : List UInt8) (k : Nat) (hk : k = xs.length) (s : ByteArray) (r : List UInt8) (hr : xs ++ (numBs s.size ++ s.data.toList) = r) (q : Nat) (hq : q = r.length) (hb : q ≤ 1000000000) : TC1 P 39 [.row 0 1 0 k, .str s] [some (.arr 1 (B.l.l xs))] (.row 1 1 0 q) [none, some (.arr 1 (B.l.l r))] := by
  refine TC1.of A _ _ T0 (T0_ok hP) (hP ▸ Try.func39) rfl _ rfl (by simp) ?_
  have h8 := numBs_len (A.slen s)
  obtain ⟨r8, hr8⟩ : ∃ r8, r8 = xs ++ numBs (A.slen s) := ⟨_, rfl⟩
  obtain ⟨q8, hq8⟩ : ∃ q8, q8 = r8.length := ⟨_, rfl⟩
  have hl8 : q8 = k + 8 := by rw [hq8, hr8, List.length_append, h8, hk]
  have hrl : r.length = k + (8 + s.size) := by
    rw [A.ok_slen] at h8
    rw [← hr, List.length_append, List.length_append, h8, Array.length_toList, hk]; rfl
  have h37 := number37r A B hP xs k hk (A.slen s) r8 hr8.symm q8 hq8 (by omega)
  have hr2 : r = r8 ++ s.data.toList := by rw [hr8, A.ok_slen, List.append_assoc, hr]
  have hbl := B.l.len r8
  clear hr8 h8 hr
  cbv
  ((try cbv) <;> (repeat ((with_reducible refine EW.of ?_); cbv)))
  refine ⟨Ent.of (hP ▸ Try.func37) rfl, ?_⟩
  refine TC1.call [0] h37 ?_
  cbv
  (repeat (first | exact trivial | refine And.intro (Emb.Pur _ _) ?_ | refine And.intro rfl ?_))
  ((try cbv) <;> (repeat ((with_reducible refine EW.of ?_); cbv)))
  refine ⟨q, B.l.l r, by show q = q8 + s.size; omega, by rw [List.take_of_length_le (by omega), hr2, B.l.app, B.bytes s.data.toList], by omega, by omega, ?_⟩
  cbv
  ((try cbv) <;> (repeat ((with_reducible refine EW.of ?_); cbv)))
  refine R1.of ?_
  cbv
  (repeat (first | exact trivial | refine And.intro (Emb.Pur _ _) ?_ | refine And.intro rfl ?_))
end Go.Proofs.Ytmbbdabcbnemiaa

/-! A node behind bytes. -/
namespace Go.Proofs.Ytmbbdabcbnemiaa
open Go.Proofs.Ytmbbdabcbnemiaa.Tw
mutual
/-- A node's bytes. -/
def nodeBs : Tree → List UInt8
  | .node i k s ks => numBs i ++ (numBs k ++ ((numBs s.size ++ s.data.toList) ++ (numBs ks.length ++ nodesBs ks)))
def nodesBs : List Tree → List UInt8
  | [] => []
  | t :: ts => nodeBs t ++ nodesBs ts
end
theorem nodesBs_app : ∀ a b : List Tree, nodesBs (a ++ b) = nodesBs a ++ nodesBs b
  | [], b => rfl
  | t :: a, b => by simp only [List.cons_append, nodesBs, nodesBs_app a b, List.append_assoc]
theorem nodesBs_take {ks : List Tree} {j : Nat} {t : Tree} (h : ks[j]? = some t) : nodesBs (ks.take (j + 1)) = nodesBs (ks.take j) ++ nodeBs t := by
  rw [List.take_add_one, h, nodesBs_app]
  show _ ++ (nodeBs t ++ []) = _
  rw [List.append_nil]
theorem nodesBs_le (ks : List Tree) (j : Nat) : (nodesBs (ks.take j)).length ≤ (nodesBs ks).length := by
  conv => rhs; rw [← List.take_append_drop j ks, nodesBs_app, List.length_append]
  omega
theorem nodesBs_ge : ∀ ks : List Tree, 32 * ks.length ≤ (nodesBs ks).length
  | [] => Nat.le_refl _
  | .node i k s ks :: ts => by
    have := nodesBs_ge ts
    rw [nodesBs, nodeBs]
    simp only [List.length_append, List.length_cons, numBs_len]
    omega
theorem app_len {xs ys zs : List UInt8} (h : xs ++ ys = zs) : zs.length = xs.length + ys.length := by rw [← h, List.length_append]
theorem text_len (s : ByteArray) : (numBs s.size ++ s.data.toList).length = 8 + s.size := by rw [List.length_append, numBs_len, Array.length_toList]; rfl
set_option maxHeartbeats 4000000 in
theorem node40r (A : Ar) (E : Em) (B : EmB) {P : Program} (hP : P = Try.prog) : ∀ (sz : Nat) (i k : Int) (s : ByteArray) (ks : List Tree), SizeOf.sizeOf (Tree.node i k s ks) ≤ sz → ∀ (xs : List UInt8) (kx : Nat), kx = xs.length → ∀ (r : List UInt8), xs ++ nodeBs (.node i k s ks) = r → ∀ (q : Nat), q = r.length → q ≤ 1000000000 →
    TC1 P 40 [.row 0 1 0 kx, .imm [.int .i64 i, .int .i64 k, .str s, .sl 4 (E.tree.l ks)]] [some (.arr 1 (B.l.l xs))] (.row 1 1 0 q) [none, some (.arr 1 (B.l.l r))] := by
  intro sz
  induction sz with
  | zero =>
    intro i k s ks hsz
    have : 0 < SizeOf.sizeOf (Tree.node i k s ks) := by simp only [Tree.node.sizeOf_spec]; omega
    omega
  | succ sz ih =>
  intro i k s ks hsz xs kx hkx r hr q hq hb
  have hek := E.tree.len ks
  have hlk : A.len (E.tree.l ks) = (ks.length : Int) := by rw [A.ok_len, hek]
  rw [nodeBs] at hr
  have hrl := app_len hr
  have htx : s.data.toList.length = s.size := by rw [Array.length_toList]; rfl
  simp only [List.length_append, numBs_len, htx] at hrl
  have hge := nodesBs_ge ks
  obtain ⟨x1, hx1⟩ : ∃ x1, xs ++ numBs i = x1 := ⟨_, rfl⟩
  obtain ⟨x2, hx2⟩ : ∃ x2, x1 ++ numBs k = x2 := ⟨_, rfl⟩
  obtain ⟨x3, hx3⟩ : ∃ x3, x2 ++ (numBs s.size ++ s.data.toList) = x3 := ⟨_, rfl⟩
  obtain ⟨x4, hx4⟩ : ∃ x4, x3 ++ numBs (A.len (E.tree.l ks)) = x4 := ⟨_, rfl⟩
  rw [← List.append_assoc, hx1, ← List.append_assoc, hx2, ← List.append_assoc, hx3, ← List.append_assoc] at hr
  have hx4' : x3 ++ numBs (ks.length : Int) = x4 := by rw [← hx4, A.ok_len, hek]
  rw [hx4'] at hr
  have hl1 := app_len hx1
  have hl2 := app_len hx2
  have hl3 := app_len hx3
  have hl4 := app_len hx4
  rw [numBs_len] at hl1 hl2 hl4
  rw [text_len] at hl3
  have hl5 := app_len hr
  obtain ⟨q1, hq1⟩ : ∃ q, q = x1.length := ⟨_, rfl⟩
  obtain ⟨q2, hq2⟩ : ∃ q, q = x2.length := ⟨_, rfl⟩
  obtain ⟨q3, hq3⟩ : ∃ q, q = x3.length := ⟨_, rfl⟩
  obtain ⟨q4, hq4⟩ : ∃ q, q = x4.length := ⟨_, rfl⟩
  have c1 := number37r A B hP xs kx hkx i x1 hx1 q1 hq1 (by omega)
  have c2 := number37r A B hP x1 q1 hq1 k x2 hx2 q2 hq2 (by omega)
  have c3 := text39r A B hP x2 q2 hq2 s x3 hx3 q3 hq3 (by omega)
  have c4 := number37r A B hP x3 q3 hq3 (A.len (E.tree.l ks)) x4 hx4 q4 hq4 (by omega)
  clear hx1 hx2 hx3 hx4 hx4'
  refine TC1.of A _ _ T0 (T0_ok hP) (hP ▸ Try.func40) rfl _ rfl (by simp) ?_
  cbv
  ((try cbv) <;> (repeat ((with_reducible refine EW.of ?_); cbv)))
  (refine TW.drawC (A := A) [] _ [(5, [none, some (.arr 1 (B.l.l x1))]), (10, [none, none, some (.arr 1 (B.l.l x2))]), (15, [none, none, none, some (.arr 1 (B.l.l x3))])] rfl (T0_ok hP) (hP ▸ follows_mixed) (by kernel_rfl) rfl (by kernel_rfl) (by cbv) (by first | kernel_rfl | cbv) rfl rfl rfl ?_; cbv)
  refine And.intro (Ent.of (hP ▸ Try.func37) rfl) ⟨.row 1 1 0 q1, [none, some (.arr 1 (B.l.l x1))], TC1.call [0] c1 ?_, ⟨rfl, ?_⟩⟩
  · skip
    cbv
    (repeat (first | exact trivial | refine And.intro (Emb.Pur _ _) ?_ | refine And.intro rfl ?_))
  cbv
  refine And.intro (Ent.of (hP ▸ Try.func37) rfl) ⟨.row 2 1 0 q2, [none, none, some (.arr 1 (B.l.l x2))], TC1.call [1] c2 ?_, ⟨rfl, ?_⟩⟩
  · skip
    cbv
    (repeat (first | exact trivial | refine And.intro (Emb.Pur _ _) ?_ | refine And.intro rfl ?_))
  cbv
  refine And.intro (Ent.of (hP ▸ Try.func39) rfl) ⟨.row 3 1 0 q3, [none, none, none, some (.arr 1 (B.l.l x3))], TC1.call [2] c3 ?_, ⟨rfl, ?_⟩⟩
  · skip
    cbv
    (repeat (first | exact trivial | refine And.intro (Emb.Pur _ _) ?_ | refine And.intro rfl ?_))
  cbv
  ((try cbv) <;> (repeat ((with_reducible refine EW.of ?_); cbv)))
  refine ⟨Ent.of (hP ▸ Try.func37) rfl, ?_⟩
  refine TC1.call [3] c4 ?_
  cbv
  (repeat (first | exact trivial | refine And.intro (Emb.Pur _ _) ?_ | refine And.intro rfl ?_))
  ((try cbv) <;> (repeat ((with_reducible refine EW.of ?_); cbv)))
  clear c1 c2 c3 c4
  obtain ⟨S, hS⟩ : ∃ S : LI (Nat × Nat × List UInt8), S = ⟨fun x => [(34, .int .i64 x.1), (33, .int .i64 (A.len (E.tree.l ks))), (4, .nils), (0, .row 1 1 0 x.2.1), (1, .imm [.int .i64 i, .int .i64 k, .str s, .sl 4 (E.tree.l ks)])], fun x => [none, some (.arr 1 (B.l.l x.2.2))], fun x => x.1 ≤ ks.length ∧ x.2.1 = x.2.2.length ∧ x.2.2 = x4 ++ nodesBs (ks.take x.1), fun x => ks.length - x.1⟩ := ⟨_, rfl⟩
  refine TW.loopM A (T0_ok hP) S _ rfl (0, q4, x4) ?_ ?_ ?_
  · rw [hS]; exact ⟨Nat.zero_le _, hq4, by rw [List.take_zero, nodesBs, List.append_nil]⟩
  · rw [hS]
    cbv
    (repeat (first | exact trivial | refine And.intro (Emb.Pur _ _) ?_ | refine And.intro rfl ?_))
  rintro ⟨j, m, l⟩ hj l1 L1 e1 e2
  rw [hS] at hj e1 e2
  dsimp only at hj e1 e2
  obtain ⟨hj, hm, hl⟩ := hj
  subst e1 e2
  cbv
  ((try cbv) <;> (repeat ((with_reducible refine EW.of ?_); cbv)))
  refine bsplit (fun h => ?_) (fun h => ?_)
  · have h : j < ks.length := lt_nt h rfl hlk
    obtain ⟨⟨i', k', s', ks'⟩, ht⟩ : ∃ t', ks[j]? = some t' := ⟨_, List.getElem?_eq_getElem h⟩
    have hmem := List.mem_of_getElem? ht
    have hsz' := Tree.kid_lt (i := i) (k := k) (s := s) hmem
    have hnx := nodesBs_take ht
    obtain ⟨l2, hl2⟩ : ∃ l2, l ++ nodeBs (.node i' k' s' ks') = l2 := ⟨_, rfl⟩
    have hl2' : l2 = x4 ++ nodesBs (ks.take (j + 1)) := by rw [hnx, ← List.append_assoc, ← hl, hl2]
    obtain ⟨q2', hq2'⟩ : ∃ q, q = l2.length := ⟨_, rfl⟩
    have hle := nodesBs_le ks (j + 1)
    have hlen2 : l2.length = x4.length + (nodesBs (ks.take (j + 1))).length := by rw [hl2', List.length_append]
    have hrec := ih i' k' s' ks' (by omega) l m hm l2 hl2 q2' hq2' (by omega)
    have hget := E.getn ht
    ((try cbv) <;> (repeat ((with_reducible refine EW.of ?_); cbv)))
    refine ⟨j, _, rfl, hget, ?_⟩
    cbv
    refine ⟨Ent.of (hP ▸ Try.func40) rfl, ?_⟩
    refine TC1.call [1] hrec ?_
    cbv
    (repeat (first | exact trivial | refine And.intro (Emb.Pur _ _) ?_ | refine And.intro rfl ?_))
    ((try cbv) <;> (repeat ((with_reducible refine EW.of ?_); cbv)))
    refine LM.of (j + 1, q2', l2) rfl ?_ ?_ ?_
    · rw [hS]; exact ⟨by show j + 1 ≤ ks.length; omega, hq2', hl2'⟩
    · rw [hS]; show ks.length - (j + 1) < ks.length - j; omega
    · rw [hS]
      cbv
      (repeat (first | exact trivial | refine And.intro (Emb.Pur _ _) ?_ | refine And.intro (inc_eq A (by omega)) ?_ | refine And.intro rfl ?_))
  · have h : ks.length ≤ j := lt_nf h rfl hlk
    obtain rfl : l = r := by rw [hl, List.take_of_length_le (by omega), hr]
    obtain rfl : m = q := by omega
    ((try cbv) <;> (repeat ((with_reducible refine EW.of ?_); cbv)))
    refine R1.of ?_
    cbv
    (repeat (first | exact trivial | refine And.intro (Emb.Pur _ _) ?_ | refine And.intro rfl ?_))
set_option maxHeartbeats 4000000 in
theorem node40n (A : Ar) (E : Em) (B : EmB) {P : Program} (hP : P = Try.prog) (i k : Int) (s : ByteArray) (ks : List Tree) (r : List UInt8) (hr : nodeBs (.node i k s ks) = r) (q : Nat) (hq : q = r.length) (hb : q ≤ 1000000000) :
    TC1 P 40 [.nils, .imm [.int .i64 i, .int .i64 k, .str s, .sl 4 (E.tree.l ks)]] [] (.row 0 1 0 q) [some (.arr 1 (B.l.l r))] := by
  have hek := E.tree.len ks
  have hlk : A.len (E.tree.l ks) = (ks.length : Int) := by rw [A.ok_len, hek]
  rw [nodeBs] at hr
  have hrl := congrArg List.length hr.symm
  have htx : s.data.toList.length = s.size := by rw [Array.length_toList]; rfl
  simp only [List.length_append, numBs_len, htx] at hrl
  have hge := nodesBs_ge ks
  obtain ⟨x1, hx1⟩ : ∃ x1, numBs i = x1 := ⟨_, rfl⟩
  obtain ⟨x2, hx2⟩ : ∃ x2, x1 ++ numBs k = x2 := ⟨_, rfl⟩
  obtain ⟨x3, hx3⟩ : ∃ x3, x2 ++ (numBs s.size ++ s.data.toList) = x3 := ⟨_, rfl⟩
  obtain ⟨x4, hx4⟩ : ∃ x4, x3 ++ numBs (A.len (E.tree.l ks)) = x4 := ⟨_, rfl⟩
  rw [hx1, ← List.append_assoc, hx2, ← List.append_assoc, hx3, ← List.append_assoc] at hr
  have hx4' : x3 ++ numBs (ks.length : Int) = x4 := by rw [← hx4, A.ok_len, hek]
  rw [hx4'] at hr
  have hl1 := congrArg List.length hx1
  have hl2 := app_len hx2
  have hl3 := app_len hx3
  have hl4 := app_len hx4
  rw [numBs_len] at hl1 hl2 hl4
  rw [text_len] at hl3
  have hl5 := app_len hr
  obtain ⟨q1, hq1⟩ : ∃ q, q = x1.length := ⟨_, rfl⟩
  obtain ⟨q2, hq2⟩ : ∃ q, q = x2.length := ⟨_, rfl⟩
  obtain ⟨q3, hq3⟩ : ∃ q, q = x3.length := ⟨_, rfl⟩
  obtain ⟨q4, hq4⟩ : ∃ q, q = x4.length := ⟨_, rfl⟩
  have c1 := number37n A B hP i x1 hx1
  have hq1' : q1 = 8 := by omega
  rw [← hq1'] at c1
  have c2 := number37r A B hP x1 q1 hq1 k x2 hx2 q2 hq2 (by omega)
  have c3 := text39r A B hP x2 q2 hq2 s x3 hx3 q3 hq3 (by omega)
  have c4 := number37r A B hP x3 q3 hq3 (A.len (E.tree.l ks)) x4 hx4 q4 hq4 (by omega)
  clear hx1 hx2 hx3 hx4 hx4'
  refine TC1.of A _ _ T0 (T0_ok hP) (hP ▸ Try.func40) rfl _ rfl (by simp) ?_
  cbv
  ((try cbv) <;> (repeat ((with_reducible refine EW.of ?_); cbv)))
  (refine TW.drawC (A := A) [] _ [(5, [some (.arr 1 (B.l.l x1))]), (10, [none, some (.arr 1 (B.l.l x2))]), (15, [none, none, some (.arr 1 (B.l.l x3))])] rfl (T0_ok hP) (hP ▸ follows_mixed) (by kernel_rfl) rfl (by kernel_rfl) (by cbv) (by first | kernel_rfl | cbv) rfl rfl rfl ?_; cbv)
  refine And.intro (Ent.of (hP ▸ Try.func37) rfl) ⟨.row 0 1 0 q1, [some (.arr 1 (B.l.l x1))], TC1.call [] c1 ?_, ⟨rfl, ?_⟩⟩
  · skip
    cbv
    (repeat (first | exact trivial | refine And.intro (Emb.Pur _ _) ?_ | refine And.intro rfl ?_))
  cbv
  refine And.intro (Ent.of (hP ▸ Try.func37) rfl) ⟨.row 1 1 0 q2, [none, some (.arr 1 (B.l.l x2))], TC1.call [0] c2 ?_, ⟨rfl, ?_⟩⟩
  · skip
    cbv
    (repeat (first | exact trivial | refine And.intro (Emb.Pur _ _) ?_ | refine And.intro rfl ?_))
  cbv
  refine And.intro (Ent.of (hP ▸ Try.func39) rfl) ⟨.row 2 1 0 q3, [none, none, some (.arr 1 (B.l.l x3))], TC1.call [1] c3 ?_, ⟨rfl, ?_⟩⟩
  · skip
    cbv
    (repeat (first | exact trivial | refine And.intro (Emb.Pur _ _) ?_ | refine And.intro rfl ?_))
  cbv
  ((try cbv) <;> (repeat ((with_reducible refine EW.of ?_); cbv)))
  refine ⟨Ent.of (hP ▸ Try.func37) rfl, ?_⟩
  refine TC1.call [2] c4 ?_
  cbv
  (repeat (first | exact trivial | refine And.intro (Emb.Pur _ _) ?_ | refine And.intro rfl ?_))
  ((try cbv) <;> (repeat ((with_reducible refine EW.of ?_); cbv)))
  clear c1 c2 c3 c4
  obtain ⟨S, hS⟩ : ∃ S : LI (Nat × Nat × List UInt8), S = ⟨fun x => [(34, .int .i64 x.1), (33, .int .i64 (A.len (E.tree.l ks))), (4, .nils), (0, .row 0 1 0 x.2.1), (1, .imm [.int .i64 i, .int .i64 k, .str s, .sl 4 (E.tree.l ks)])], fun x => [some (.arr 1 (B.l.l x.2.2))], fun x => x.1 ≤ ks.length ∧ x.2.1 = x.2.2.length ∧ x.2.2 = x4 ++ nodesBs (ks.take x.1), fun x => ks.length - x.1⟩ := ⟨_, rfl⟩
  refine TW.loopM A (T0_ok hP) S _ rfl (0, q4, x4) ?_ ?_ ?_
  · rw [hS]; exact ⟨Nat.zero_le _, hq4, by rw [List.take_zero, nodesBs, List.append_nil]⟩
  · rw [hS]
    cbv
    (repeat (first | exact trivial | refine And.intro (Emb.Pur _ _) ?_ | refine And.intro rfl ?_))
  rintro ⟨j, m, l⟩ hj l1 L1 e1 e2
  rw [hS] at hj e1 e2
  dsimp only at hj e1 e2
  obtain ⟨hj, hm, hl⟩ := hj
  subst e1 e2
  cbv
  ((try cbv) <;> (repeat ((with_reducible refine EW.of ?_); cbv)))
  refine bsplit (fun h => ?_) (fun h => ?_)
  · have h : j < ks.length := lt_nt h rfl hlk
    obtain ⟨⟨i', k', s', ks'⟩, ht⟩ : ∃ t', ks[j]? = some t' := ⟨_, List.getElem?_eq_getElem h⟩
    have hmem := List.mem_of_getElem? ht
    have hsz' := Tree.kid_lt (i := i) (k := k) (s := s) hmem
    have hnx := nodesBs_take ht
    obtain ⟨l2, hl2⟩ : ∃ l2, l ++ nodeBs (.node i' k' s' ks') = l2 := ⟨_, rfl⟩
    have hl2' : l2 = x4 ++ nodesBs (ks.take (j + 1)) := by rw [hnx, ← List.append_assoc, ← hl, hl2]
    obtain ⟨q2', hq2'⟩ : ∃ q, q = l2.length := ⟨_, rfl⟩
    have hle := nodesBs_le ks (j + 1)
    have hlen2 : l2.length = x4.length + (nodesBs (ks.take (j + 1))).length := by rw [hl2', List.length_append]
    have hrec := node40r A E B hP _ i' k' s' ks' (Nat.le_refl _) l m hm l2 hl2 q2' hq2' (by omega)
    have hget := E.getn ht
    ((try cbv) <;> (repeat ((with_reducible refine EW.of ?_); cbv)))
    refine ⟨j, _, rfl, hget, ?_⟩
    cbv
    refine ⟨Ent.of (hP ▸ Try.func40) rfl, ?_⟩
    refine TC1.call [0] hrec ?_
    cbv
    (repeat (first | exact trivial | refine And.intro (Emb.Pur _ _) ?_ | refine And.intro rfl ?_))
    ((try cbv) <;> (repeat ((with_reducible refine EW.of ?_); cbv)))
    refine LM.of (j + 1, q2', l2) rfl ?_ ?_ ?_
    · rw [hS]; exact ⟨by show j + 1 ≤ ks.length; omega, hq2', hl2'⟩
    · rw [hS]; show ks.length - (j + 1) < ks.length - j; omega
    · rw [hS]
      cbv
      (repeat (first | exact trivial | refine And.intro (Emb.Pur _ _) ?_ | refine And.intro (inc_eq A (by omega)) ?_ | refine And.intro rfl ?_))
  · have h : ks.length ≤ j := lt_nf h rfl hlk
    obtain rfl : l = r := by rw [hl, List.take_of_length_le (by omega), hr]
    obtain rfl : m = q := by omega
    ((try cbv) <;> (repeat ((with_reducible refine EW.of ?_); cbv)))
    refine R1.of ?_
    cbv
    (repeat (first | exact trivial | refine And.intro (Emb.Pur _ _) ?_ | refine And.intro rfl ?_))
end Go.Proofs.Ytmbbdabcbnemiaa

/-! What is exported; the reference's numbers and texts. -/
namespace Go.Proofs.Ytmbbdabcbnemiaa
open Go.Proofs.Ytmbbdabcbnemiaa.Tw
theorem Number10 (A : Ar) (B : EmB) {P : Program} (hP : P = Try.prog) (bs : List UInt8) (hl : bs.length ≤ 100000000) (n : Int) (r : List UInt8) (hr : bs ++ numBs n = r) : TPure P 10 [.sl 1 (B.l.l bs), .int .i64 n] (.sl 1 (B.l.l r)) := by
  have hrl := app_len hr
  rw [numBs_len] at hrl
  obtain ⟨q, hq⟩ : ∃ q, q = r.length := ⟨_, rfl⟩
  by_cases h0 : bs = []
  · subst h0
    rw [List.nil_append] at hr
    have h38 := own38n A hP
    have h37 := number37n A B hP n r hr
    rw [show (8 : Nat) = q by rw [hq, hrl]; rfl] at h37
    rw [B.l.nil]
    refine TPure.ofE A T0 (T0_ok hP) (hP ▸ Try.func10) rfl _ rfl (by simp) ?_
    cbv
    ((try cbv) <;> (repeat ((with_reducible refine EW.of ?_); cbv)))
    (refine ⟨Ent.of (hP ▸ Try.func38) rfl, ?_⟩; refine TC.pureE h38 ?_; cbv; (repeat (first | exact trivial | refine And.intro (Emb.Pur _ _) ?_ | refine And.intro rfl ?_ | refine And.intro (Pur.mk rfl) ?_ | refine And.intro (Pur.mk (by assumption)) ?_)); ((try cbv) <;> (repeat ((with_reducible refine EW.of ?_); cbv))))
    refine ⟨Ent.of (hP ▸ Try.func37) rfl, ?_⟩
    refine TC1.call [] h37 ?_
    cbv
    (repeat (first | exact trivial | refine And.intro (Emb.Pur _ _) ?_ | refine And.intro rfl ?_))
    ((try cbv) <;> (repeat ((with_reducible refine EW.of ?_); cbv)))
    exact And.intro (B.l.cut hq) (And.intro (B.l.Pur _) trivial)
  · obtain ⟨k, hk⟩ : ∃ k, k = bs.length := ⟨_, rfl⟩
    have h38 := own38 A B hP bs (by omega) h0 k hk
    have h37 := number37r A B hP bs k hk n r hr q hq (by omega)
    refine TPure.ofE A T0 (T0_ok hP) (hP ▸ Try.func10) rfl _ rfl (by simp) ?_
    cbv
    ((try cbv) <;> (repeat ((with_reducible refine EW.of ?_); cbv)))
    refine ⟨Ent.of (hP ▸ Try.func38) rfl, ?_⟩
    refine TC1.call [] h38 ?_
    cbv
    (repeat (first | exact trivial | refine And.intro (Emb.Pur _ _) ?_ | refine And.intro rfl ?_))
    ((try cbv) <;> (repeat ((with_reducible refine EW.of ?_); cbv)))
    refine ⟨Ent.of (hP ▸ Try.func37) rfl, ?_⟩
    refine TC1.call [0] h37 ?_
    cbv
    (repeat (first | exact trivial | refine And.intro (Emb.Pur _ _) ?_ | refine And.intro rfl ?_))
    ((try cbv) <;> (repeat ((with_reducible refine EW.of ?_); cbv)))
    exact And.intro (B.l.cut hq) (And.intro (B.l.Pur _) trivial)
theorem Text12 (A : Ar) (B : EmB) {P : Program} (hP : P = Try.prog) (bs : List UInt8) (hl : bs.length ≤ 100000000) (s : ByteArray) (hs : s.size ≤ 100000000) (r : List UInt8) (hr : bs ++ (numBs s.size ++ s.data.toList) = r) : TPure P 12 [.sl 1 (B.l.l bs), .str s] (.sl 1 (B.l.l r)) := by
  have hrl := app_len hr
  rw [text_len] at hrl
  obtain ⟨q, hq⟩ : ∃ q, q = r.length := ⟨_, rfl⟩
  by_cases h0 : bs = []
  · subst h0
    rw [List.nil_append] at hr
    have h38 := own38n A hP
    have h39 := text39n A B hP s (by omega) r hr q hq
    rw [B.l.nil]
    refine TPure.ofE A T0 (T0_ok hP) (hP ▸ Try.func12) rfl _ rfl (by simp) ?_
    cbv
    ((try cbv) <;> (repeat ((with_reducible refine EW.of ?_); cbv)))
    (refine ⟨Ent.of (hP ▸ Try.func38) rfl, ?_⟩; refine TC.pureE h38 ?_; cbv; (repeat (first | exact trivial | refine And.intro (Emb.Pur _ _) ?_ | refine And.intro rfl ?_ | refine And.intro (Pur.mk rfl) ?_ | refine And.intro (Pur.mk (by assumption)) ?_)); ((try cbv) <;> (repeat ((with_reducible refine EW.of ?_); cbv))))
    refine ⟨Ent.of (hP ▸ Try.func39) rfl, ?_⟩
    refine TC1.call [] h39 ?_
    cbv
    (repeat (first | exact trivial | refine And.intro (Emb.Pur _ _) ?_ | refine And.intro rfl ?_))
    ((try cbv) <;> (repeat ((with_reducible refine EW.of ?_); cbv)))
    exact And.intro (B.l.cut hq) (And.intro (B.l.Pur _) trivial)
  · obtain ⟨k, hk⟩ : ∃ k, k = bs.length := ⟨_, rfl⟩
    have h38 := own38 A B hP bs (by omega) h0 k hk
    have h39 := text39r A B hP bs k hk s r hr q hq (by omega)
    refine TPure.ofE A T0 (T0_ok hP) (hP ▸ Try.func12) rfl _ rfl (by simp) ?_
    cbv
    ((try cbv) <;> (repeat ((with_reducible refine EW.of ?_); cbv)))
    refine ⟨Ent.of (hP ▸ Try.func38) rfl, ?_⟩
    refine TC1.call [] h38 ?_
    cbv
    (repeat (first | exact trivial | refine And.intro (Emb.Pur _ _) ?_ | refine And.intro rfl ?_))
    ((try cbv) <;> (repeat ((with_reducible refine EW.of ?_); cbv)))
    refine ⟨Ent.of (hP ▸ Try.func39) rfl, ?_⟩
    refine TC1.call [0] h39 ?_
    cbv
    (repeat (first | exact trivial | refine And.intro (Emb.Pur _ _) ?_ | refine And.intro rfl ?_))
    ((try cbv) <;> (repeat ((with_reducible refine EW.of ?_); cbv)))
    exact And.intro (B.l.cut hq) (And.intro (B.l.Pur _) trivial)
theorem Node14 (A : Ar) (E : Em) (B : EmB) {P : Program} (hP : P = Try.prog) (bs : List UInt8) (hl : bs.length ≤ 100000000) (t : Tree) (r : List UInt8) (hr : bs ++ nodeBs t = r) (hrl : r.length ≤ 1000000000) : TPure P 14 [.sl 1 (B.l.l bs), E.tree.v t] (.sl 1 (B.l.l r)) := by
  obtain ⟨i, k, s, ks⟩ := t
  rw [E.node]
  obtain ⟨q, hq⟩ : ∃ q, q = r.length := ⟨_, rfl⟩
  by_cases h0 : bs = []
  · subst h0
    rw [List.nil_append] at hr
    have h38 := own38n A hP
    have h40 := node40n A E B hP i k s ks r hr q hq (by omega)
    rw [B.l.nil]
    refine TPure.ofE A T0 (T0_ok hP) (hP ▸ Try.func14) rfl _ rfl (by simp) ?_
    cbv
    refine EW.vs [(4, .nils), (3, .imm [.int .i64 i, .int .i64 k, .str s, .sl 4 (E.tree.l ks)]), (0, .sl 1 [])] [] 8 rfl ?_
    cbv
    (repeat (first | exact trivial | refine And.intro (Emb.Pur _ _) ?_ | refine And.intro rfl ?_ | refine And.intro (Pur.mk (by (repeat (first | exact rfl | exact Emb.purL _ _ | assumption | apply pur_cons | apply pur_sl | apply pur_slt | apply pur_agg | apply pur_tup)))) ?_))
    ((try cbv) <;> (repeat ((with_reducible refine EW.of ?_); cbv)))
    (refine ⟨Ent.of (hP ▸ Try.func38) rfl, ?_⟩; refine TC.pureE h38 ?_; cbv; (repeat (first | exact trivial | refine And.intro (Emb.Pur _ _) ?_ | refine And.intro rfl ?_ | refine And.intro (Pur.mk rfl) ?_ | refine And.intro (Pur.mk (by assumption)) ?_)); ((try cbv) <;> (repeat ((with_reducible refine EW.of ?_); cbv))))
    refine ⟨Ent.of (hP ▸ Try.func40) rfl, ?_⟩
    refine TC1.call [] h40 ?_
    cbv
    (repeat (first | exact trivial | refine And.intro (Emb.Pur _ _) ?_ | refine And.intro rfl ?_))
    ((try cbv) <;> (repeat ((with_reducible refine EW.of ?_); cbv)))
    exact And.intro (B.l.cut hq) (And.intro (B.l.Pur _) trivial)
  · obtain ⟨kx, hk⟩ : ∃ k, k = bs.length := ⟨_, rfl⟩
    have h38 := own38 A B hP bs (by omega) h0 kx hk
    have h40 := node40r A E B hP _ i k s ks (Nat.le_refl _) bs kx hk r hr q hq (by omega)
    refine TPure.ofE A T0 (T0_ok hP) (hP ▸ Try.func14) rfl _ rfl (by simp) ?_
    cbv
    refine EW.vs [(4, .nils), (3, .imm [.int .i64 i, .int .i64 k, .str s, .sl 4 (E.tree.l ks)]), (0, .sl 1 (B.l.l bs))] [] 8 rfl ?_
    cbv
    (repeat (first | exact trivial | refine And.intro (Emb.Pur _ _) ?_ | refine And.intro rfl ?_ | refine And.intro (Pur.mk (by (repeat (first | exact rfl | exact Emb.purL _ _ | assumption | apply pur_cons | apply pur_sl | apply pur_slt | apply pur_agg | apply pur_tup)))) ?_))
    ((try cbv) <;> (repeat ((with_reducible refine EW.of ?_); cbv)))
    refine ⟨Ent.of (hP ▸ Try.func38) rfl, ?_⟩
    refine TC1.call [] h38 ?_
    cbv
    (repeat (first | exact trivial | refine And.intro (Emb.Pur _ _) ?_ | refine And.intro rfl ?_))
    ((try cbv) <;> (repeat ((with_reducible refine EW.of ?_); cbv)))
    refine ⟨Ent.of (hP ▸ Try.func40) rfl, ?_⟩
    refine TC1.call [0] h40 ?_
    cbv
    (repeat (first | exact trivial | refine And.intro (Emb.Pur _ _) ?_ | refine And.intro rfl ?_))
    ((try cbv) <;> (repeat ((with_reducible refine EW.of ?_); cbv)))
    exact And.intro (B.l.cut hq) (And.intro (B.l.Pur _) trivial)
end Go.Proofs.Ytmbbdabcbnemiaa

/-! The reference's numbers and texts. -/
namespace Go.Proofs.Ytmbbdabcbnemiaa
open Go.Proofs.Ytmbbdabcbnemiaa.Tw
/-- What comes back as a row of ours, told as a plain row. -/
theorem TC1.frz {P : Program} {f : FuncId} {args : List AV} {v v' : AV} {M : Store} (h : TC1 P f args [] v M) (hr : R1 0 v' [] v M) : TPure P f args v' :=
  TPure.of ⟨fun w I ρ vs h1 h2 => (h.h w I ρ vs h1 h2).mono fun e w' ⟨x, L', I', ρ', a, ⟨b, c⟩, d, g, ev⟩ => by
    subst b c
    cases e with
    | returned u =>
      obtain ⟨I2, ρ2, d2, u2, ev2⟩ := vsv_use hr.h d a
      refine ⟨.ret v', [], I2, ρ2, u2, ⟨rfl, rfl⟩, d2, fun p b hp => ?_, ev.trans ev2⟩
      have := h1.len
      have := (List.getElem?_eq_some_iff.1 hp).1
      simp_all
    | panicked ch => exact a.elim
    | _ => exact a.elim⟩
theorem EmB.frz (B : EmB) {P : Program} {f : FuncId} {args : List AV} {r : List UInt8} {q : Nat} (hq : q = r.length) (h : TC1 P f args [] (.row 0 1 0 q) [some (.arr 1 (B.l.l r))]) : TPure P f args (.sl 1 (B.l.l r)) :=
  TC1.frz h (R1.of (by
    cbv
    exact And.intro (B.l.cut hq) (And.intro (B.l.Pur _) trivial)))
theorem num_opR0 (A : Ar) {j : Nat} (hj : j < 8) : 0 ≤ A.wrap .u64 (A.op .mul .i64 8 (7 - (j : Int))) := by
  rw [A.ok_mul, wrap_i64 (by omega) (by omega), A.ok_wrap]
  simp only [IntKind.wrap, IntKind.signed, IntKind.bits]
  simp
  omega
theorem num_opR (A : Ar) (n : Int) {j : Nat} (hj : j < 8) : A.wrap .u8 (A.op .shr .u64 (A.wrap .u64 n) (A.wrap .u64 (A.op .mul .i64 8 (7 - (j : Int))))) = ((UInt8.ofNat (numI n j).toNat).toNat : Int) := by
  have e : A.wrap .u64 (A.op .mul .i64 8 (7 - (j : Int))) = ((56 - 8 * j : Nat) : Int) := by
    rw [A.ok_mul, wrap_i64 (by omega) (by omega), A.ok_wrap]
    simp only [IntKind.wrap, IntKind.signed, IntKind.bits]
    simp
    omega
  rw [e, A.ok_wrap, A.ok_shr, A.ok_wrap]
  unfold numI
  rw [byte_ofInt (wrap_u8 _)]
  have : min (((56 - 8 * j : Nat) : Int).toNat) IntKind.u64.bits = 56 - 8 * j := by
    rw [Int.toNat_natCast]
    exact Nat.min_eq_left (by show 56 - 8 * j ≤ 64; omega)
  rw [this]
theorem i7_lt {i : Int} {j : Nat} (hi : i = 7 - (j : Int)) (h : 0 ≤ i) : j < 8 := by omega
theorem i7_ge {i : Int} {j : Nat} (hi : i = 7 - (j : Int)) (h : i < 0) : 8 ≤ j := by omega
theorem i7_dec (A : Ar) {i : Int} {j : Nat} (hi : i = 7 - (j : Int)) (hj : j < 8) : A.op .sub .i64 i 1 = 7 - ((j + 1 : Nat) : Int) := by rw [hi, sub_i64 rfl rfl (by omega) (by omega)]; omega
def startB (bs : List UInt8) : Option (Nat × List UInt8) := match bs with | [] => none | b :: l => some ((b :: l).length, b :: l)
set_option maxHeartbeats 1000000 in
theorem Number11r (A : Ar) (B : EmB) {P : Program} (hP : P = Try.prog) (bs : List UInt8) (hl : bs.length ≤ 500000000) (n : Int) (r : List UInt8) (hr : bs ++ numBs n = r) (q : Nat) (hq : q = r.length) : TC1 P 11 [.sl 1 (B.l.l bs), .int .i64 n] [] (.row 0 1 0 q) [some (.arr 1 (B.l.l r))] := by
  refine TC1.of A _ _ T0 (T0_ok hP) (hP ▸ Try.func11) rfl _ rfl (by simp) ?_
  obtain ⟨k, hk⟩ : ∃ k, k = bs.length := ⟨_, rfl⟩
  have hrl : r.length = k + 8 := by rw [← hr, List.length_append, numBs_len, hk]
  have hxr : r.take k = bs := by rw [← hr, hk, List.take_left]
  have hrg : ∀ j, j < 8 → r[k + j]? = some (UInt8.ofNat (numI n j).toNat) := fun j hj => by
    rw [← hr, List.getElem?_append_right (by omega), show k + j - bs.length = j by omega]; exact numBs_get n hj
  clear hr
  obtain ⟨S, hS⟩ : ∃ S : LI (Nat × Option (Nat × List UInt8)), S = ⟨fun x => [(6, .int .i64 (7 - (x.1 : Int))), (5, rowB 0 x.2), (4, .nils), (1, .int .i64 n)], fun x => stB B [] x.2, fun x => x.1 ≤ 8 ∧ okB x.2 ∧ outB x.2 = r.take (k + x.1), fun x => 8 - x.1⟩ := ⟨_, rfl⟩
  cases bs with
  | nil =>
    rw [B.l.nil]
    cbv
    ((try cbv) <;> (repeat ((with_reducible refine EW.of ?_); cbv)))
    refine TW.loopM A (T0_ok hP) S _ rfl (0, none) ?_ ?_ ?_
    · rw [hS]; exact ⟨Nat.zero_le _, trivial, hxr.symm⟩
    · rw [hS]
      cbv
      (repeat (first | exact trivial | refine And.intro (Emb.Pur _ _) ?_ | refine And.intro rfl ?_))
    rintro ⟨j, o⟩ hj l1 L1 e1 e2
    rw [hS] at hj e1 e2
    dsimp only at hj e1 e2
    obtain ⟨hj, hok, hout⟩ := hj
    obtain ⟨i, hi⟩ : ∃ i : Int, i = 7 - (j : Int) := ⟨_, rfl⟩
    rw [← hi] at e1
    subst e1
    cases o with
    | none =>
      dsimp only [stB, rowB, outB, okB] at e2 hok hout ⊢
      subst e2
      cbv
      ((try cbv) <;> (repeat ((with_reducible refine EW.of ?_); cbv)))
      refine bsplit (fun h => ?_) (fun h => ?_)
      · have h : (0 : Int) ≤ i := le_t h rfl rfl
        have hj8 : j < 8 := i7_lt hi h
        have hel := num_opR A n hj8
        have he0 := num_opR0 A hj8
        rw [← hi] at hel he0
        have hgj : r[k + j]? = some (UInt8.ofNat (numI n j).toNat) := hrg j hj8
        generalize UInt8.ofNat (numI n j).toNat = b at hel hgj
        have htk : r.take (k + j + 1) = r.take (k + j) ++ [b] := by rw [List.take_add_one, hgj]; rfl
        ((try cbv) <;> (repeat ((with_reducible refine EW.of ?_); cbv)))
        refine ⟨he0, ?_⟩
        ((try cbv) <;> (repeat ((with_reducible refine EW.of ?_); cbv)))
        have hes : AV.int .u8 (A.wrap .u8 (A.op .shr .u64 (A.wrap .u64 n) (A.wrap .u64 (A.op .mul .i64 8 i)))) = B.l.v b := by rw [B.ok, hel]
        obtain ⟨l1, hl1⟩ : ∃ d, d = [] ++ [b] := ⟨_, rfl⟩
        obtain ⟨q1, hq1⟩ : ∃ q, q = l1.length := ⟨_, rfl⟩
        rw [← hout, ← hl1] at htk
        have hq2 : q1 = k + j + 1 := by rw [hq1, ← htk, List.length_take]; omega
        refine ⟨⟨rfl⟩, q1, B.l.l l1, by rw [hq1, hl1]; rfl, by rw [hl1, List.nil_append, B.l.cons, B.l.nil, ← hes]; rfl, Nat.zero_le _, ?_, ?_, ?_⟩
        · rw [hq1, hl1]; simp
        · rw [hq1, hl1]; simp
        cbv
        ((try cbv) <;> (repeat ((with_reducible refine EW.of ?_); cbv)))
        refine LM.of (j + 1, some (q1, l1)) rfl ?_ ?_ ?_
        · rw [hS]; exact ⟨by show j + 1 ≤ 8; omega, hq1, htk.symm⟩
        · rw [hS]; show 8 - (j + 1) < 8 - j; omega
        · rw [hS]
          cbv
          (repeat (first | exact trivial | refine And.intro (Emb.Pur _ _) ?_ | refine And.intro (i7_dec A hi hj8) ?_ | refine And.intro rfl ?_))
      · have h : i < 0 := le_f h rfl rfl
        have hj8 : 8 ≤ j := i7_ge hi h
        exfalso
        have := congrArg List.length hout
        simp at this
        omega
    | some x =>
      obtain ⟨m, l⟩ := x
      dsimp only [stB, rowB, outB, okB] at e2 hok hout ⊢
      have hll := B.l.len l
      have hlj : l.length ≤ k + 8 := by rw [hout, List.length_take]; omega
      subst e2
      cbv
      ((try cbv) <;> (repeat ((with_reducible refine EW.of ?_); cbv)))
      refine bsplit (fun h => ?_) (fun h => ?_)
      · have h : (0 : Int) ≤ i := le_t h rfl rfl
        have hj8 : j < 8 := i7_lt hi h
        have hel := num_opR A n hj8
        have he0 := num_opR0 A hj8
        rw [← hi] at hel he0
        have hgj : r[k + j]? = some (UInt8.ofNat (numI n j).toNat) := hrg j hj8
        generalize UInt8.ofNat (numI n j).toNat = b at hel hgj
        have htk : r.take (k + j + 1) = r.take (k + j) ++ [b] := by rw [List.take_add_one, hgj]; rfl
        ((try cbv) <;> (repeat ((with_reducible refine EW.of ?_); cbv)))
        refine ⟨he0, ?_⟩
        ((try cbv) <;> (repeat ((with_reducible refine EW.of ?_); cbv)))
        have hes : AV.int .u8 (A.wrap .u8 (A.op .shr .u64 (A.wrap .u64 n) (A.wrap .u64 (A.op .mul .i64 8 i)))) = B.l.v b := by rw [B.ok, hel]
        obtain ⟨l1, hl1⟩ : ∃ d, d = l ++ [b] := ⟨_, rfl⟩
        obtain ⟨q1, hq1⟩ : ∃ q, q = l1.length := ⟨_, rfl⟩
        rw [← hout, ← hl1] at htk
        have hq2 : q1 = k + j + 1 := by rw [hq1, ← htk, List.length_take]; omega
        have hq3 : q1 = m + 1 := by rw [hq1, hl1, hok]; simp
        refine ⟨⟨rfl⟩, q1, B.l.l l1, hq3, by rw [hl1, B.l.app, B.l.cons, B.l.nil, ← hes, List.take_of_length_le (show (B.l.l l).length ≤ m by omega)], (show m ≤ (B.l.l l).length by omega), by omega, by omega, ?_⟩
        cbv
        ((try cbv) <;> (repeat ((with_reducible refine EW.of ?_); cbv)))
        refine LM.of (j + 1, some (q1, l1)) rfl ?_ ?_ ?_
        · rw [hS]; exact ⟨by show j + 1 ≤ 8; omega, hq1, htk.symm⟩
        · rw [hS]; show 8 - (j + 1) < 8 - j; omega
        · rw [hS]
          cbv
          (repeat (first | exact trivial | refine And.intro (Emb.Pur _ _) ?_ | refine And.intro (i7_dec A hi hj8) ?_ | refine And.intro rfl ?_))
      · have h : i < 0 := le_f h rfl rfl
        have hj8 : 8 ≤ j := i7_ge hi h
        obtain rfl : l = r := by rw [hout, List.take_of_length_le (by omega)]
        ((try cbv) <;> (repeat ((with_reducible refine EW.of ?_); cbv)))
        obtain rfl : m = q := by omega
        refine R1.of ?_
        cbv
        (repeat (first | exact trivial | refine And.intro (Emb.Pur _ _) ?_ | refine And.intro rfl ?_))
  | cons b0 bt =>
    have hne : B.l.l (b0 :: bt) ≠ [] := fun e => by have := B.l.len (b0 :: bt); rw [e] at this; cases this
    have hsc := B.scal (b0 :: bt)
    have hll := B.l.len (b0 :: bt)
    generalize hbs : b0 :: bt = bs at *
    cbv
    ((try cbv) <;> (repeat ((with_reducible refine EW.of ?_); cbv)))
    refine msplit (fun he => absurd he hne) (fun a al he => ?_)
    have he2 : a :: al = B.l.l bs := he.symm
    refine ⟨⟨by rw [he2]; exact hsc.h⟩, k, B.l.l bs, by rw [he2, hll, Nat.zero_add, hk], by rw [he2]; rfl, Nat.zero_le _, by show k * 1 ≤ _; omega, by omega, ?_⟩
    cbv
    ((try cbv) <;> (repeat ((with_reducible refine EW.of ?_); cbv)))
    refine TW.loopM A (T0_ok hP) S _ rfl (0, some (k, bs)) ?_ ?_ ?_
    · rw [hS]; exact ⟨Nat.zero_le _, hk, hxr.symm⟩
    · rw [hS]
      cbv
      (repeat (first | exact trivial | refine And.intro (Emb.Pur _ _) ?_ | refine And.intro rfl ?_))
    rintro ⟨j, o⟩ hj l1 L1 e1 e2
    rw [hS] at hj e1 e2
    dsimp only at hj e1 e2
    obtain ⟨hj, hok, hout⟩ := hj
    obtain ⟨i, hi⟩ : ∃ i : Int, i = 7 - (j : Int) := ⟨_, rfl⟩
    rw [← hi] at e1
    subst e1
    cases o with
    | none =>
      dsimp only [stB, rowB, outB, okB] at e2 hok hout ⊢
      subst e2
      cbv
      ((try cbv) <;> (repeat ((with_reducible refine EW.of ?_); cbv)))
      refine bsplit (fun h => ?_) (fun h => ?_)
      · have h : (0 : Int) ≤ i := le_t h rfl rfl
        have hj8 : j < 8 := i7_lt hi h
        have hel := num_opR A n hj8
        have he0 := num_opR0 A hj8
        rw [← hi] at hel he0
        have hgj : r[k + j]? = some (UInt8.ofNat (numI n j).toNat) := hrg j hj8
        generalize UInt8.ofNat (numI n j).toNat = b at hel hgj
        have htk : r.take (k + j + 1) = r.take (k + j) ++ [b] := by rw [List.take_add_one, hgj]; rfl
        ((try cbv) <;> (repeat ((with_reducible refine EW.of ?_); cbv)))
        refine ⟨he0, ?_⟩
        ((try cbv) <;> (repeat ((with_reducible refine EW.of ?_); cbv)))
        have hes : AV.int .u8 (A.wrap .u8 (A.op .shr .u64 (A.wrap .u64 n) (A.wrap .u64 (A.op .mul .i64 8 i)))) = B.l.v b := by rw [B.ok, hel]
        obtain ⟨l1, hl1⟩ : ∃ d, d = [] ++ [b] := ⟨_, rfl⟩
        obtain ⟨q1, hq1⟩ : ∃ q, q = l1.length := ⟨_, rfl⟩
        rw [← hout, ← hl1] at htk
        have hq2 : q1 = k + j + 1 := by rw [hq1, ← htk, List.length_take]; omega
        refine ⟨⟨rfl⟩, q1, B.l.l l1, by rw [hq1, hl1]; rfl, by rw [hl1, List.nil_append, B.l.cons, B.l.nil, ← hes]; rfl, Nat.zero_le _, ?_, ?_, ?_⟩
        · rw [hq1, hl1]; simp
        · rw [hq1, hl1]; simp
        cbv
        ((try cbv) <;> (repeat ((with_reducible refine EW.of ?_); cbv)))
        refine LM.of (j + 1, some (q1, l1)) rfl ?_ ?_ ?_
        · rw [hS]; exact ⟨by show j + 1 ≤ 8; omega, hq1, htk.symm⟩
        · rw [hS]; show 8 - (j + 1) < 8 - j; omega
        · rw [hS]
          cbv
          (repeat (first | exact trivial | refine And.intro (Emb.Pur _ _) ?_ | refine And.intro (i7_dec A hi hj8) ?_ | refine And.intro rfl ?_))
      · have h : i < 0 := le_f h rfl rfl
        have hj8 : 8 ≤ j := i7_ge hi h
        exfalso
        have := congrArg List.length hout
        simp at this
        omega
    | some x =>
      obtain ⟨m, l⟩ := x
      dsimp only [stB, rowB, outB, okB] at e2 hok hout ⊢
      have hll := B.l.len l
      have hlj : l.length ≤ k + 8 := by rw [hout, List.length_take]; omega
      subst e2
      cbv
      ((try cbv) <;> (repeat ((with_reducible refine EW.of ?_); cbv)))
      refine bsplit (fun h => ?_) (fun h => ?_)
      · have h : (0 : Int) ≤ i := le_t h rfl rfl
        have hj8 : j < 8 := i7_lt hi h
        have hel := num_opR A n hj8
        have he0 := num_opR0 A hj8
        rw [← hi] at hel he0
        have hgj : r[k + j]? = some (UInt8.ofNat (numI n j).toNat) := hrg j hj8
        generalize UInt8.ofNat (numI n j).toNat = b at hel hgj
        have htk : r.take (k + j + 1) = r.take (k + j) ++ [b] := by rw [List.take_add_one, hgj]; rfl
        ((try cbv) <;> (repeat ((with_reducible refine EW.of ?_); cbv)))
        refine ⟨he0, ?_⟩
        ((try cbv) <;> (repeat ((with_reducible refine EW.of ?_); cbv)))
        have hes : AV.int .u8 (A.wrap .u8 (A.op .shr .u64 (A.wrap .u64 n) (A.wrap .u64 (A.op .mul .i64 8 i)))) = B.l.v b := by rw [B.ok, hel]
        obtain ⟨l1, hl1⟩ : ∃ d, d = l ++ [b] := ⟨_, rfl⟩
        obtain ⟨q1, hq1⟩ : ∃ q, q = l1.length := ⟨_, rfl⟩
        rw [← hout, ← hl1] at htk
        have hq2 : q1 = k + j + 1 := by rw [hq1, ← htk, List.length_take]; omega
        have hq3 : q1 = m + 1 := by rw [hq1, hl1, hok]; simp
        refine ⟨⟨rfl⟩, q1, B.l.l l1, hq3, by rw [hl1, B.l.app, B.l.cons, B.l.nil, ← hes, List.take_of_length_le (show (B.l.l l).length ≤ m by omega)], (show m ≤ (B.l.l l).length by omega), by omega, by omega, ?_⟩
        cbv
        ((try cbv) <;> (repeat ((with_reducible refine EW.of ?_); cbv)))
        refine LM.of (j + 1, some (q1, l1)) rfl ?_ ?_ ?_
        · rw [hS]; exact ⟨by show j + 1 ≤ 8; omega, hq1, htk.symm⟩
        · rw [hS]; show 8 - (j + 1) < 8 - j; omega
        · rw [hS]
          cbv
          (repeat (first | exact trivial | refine And.intro (Emb.Pur _ _) ?_ | refine And.intro (i7_dec A hi hj8) ?_ | refine And.intro rfl ?_))
      · have h : i < 0 := le_f h rfl rfl
        have hj8 : 8 ≤ j := i7_ge hi h
        obtain rfl : l = r := by rw [hout, List.take_of_length_le (by omega)]
        ((try cbv) <;> (repeat ((with_reducible refine EW.of ?_); cbv)))
        obtain rfl : m = q := by omega
        refine R1.of ?_
        cbv
        (repeat (first | exact trivial | refine And.intro (Emb.Pur _ _) ?_ | refine And.intro rfl ?_))
theorem Number11 (A : Ar) (B : EmB) {P : Program} (hP : P = Try.prog) (bs : List UInt8) (hl : bs.length ≤ 500000000) (n : Int) (r : List UInt8) (hr : bs ++ numBs n = r) : TPure P 11 [.sl 1 (B.l.l bs), .int .i64 n] (.sl 1 (B.l.l r)) :=
  B.frz rfl (Number11r A B hP bs hl n r hr _ rfl)
theorem Text13 (A : Ar) (B : EmB) {P : Program} (hP : P = Try.prog) (bs : List UInt8) (hl : bs.length ≤ 400000000) (s : ByteArray) (hs : s.size ≤ 100000000) (r : List UInt8) (hr : bs ++ (numBs s.size ++ s.data.toList) = r) : TPure P 13 [.sl 1 (B.l.l bs), .str s] (.sl 1 (B.l.l r)) := by
  have hrl := app_len hr
  rw [text_len] at hrl
  have h8 := numBs_len (A.slen s)
  obtain ⟨q, hq⟩ : ∃ q, q = r.length := ⟨_, rfl⟩
  obtain ⟨r8, hr8⟩ : ∃ r8, bs ++ numBs (A.slen s) = r8 := ⟨_, rfl⟩
  obtain ⟨q8, hq8⟩ : ∃ q8, q8 = r8.length := ⟨_, rfl⟩
  have h11 := Number11r A B hP bs (by omega) (A.slen s) r8 hr8 q8 hq8
  have hl8 := app_len hr8
  rw [h8] at hl8
  have hr2 : r = r8 ++ s.data.toList := by rw [← hr8, A.ok_slen, List.append_assoc, hr]
  have hbl := B.l.len r8
  clear hr8 h8 hr
  refine TPure.ofE A T0 (T0_ok hP) (hP ▸ Try.func13) rfl _ rfl (by simp) ?_
  cbv
  ((try cbv) <;> (repeat ((with_reducible refine EW.of ?_); cbv)))
  refine ⟨Ent.of (hP ▸ Try.func11) rfl, ?_⟩
  refine TC1.call [] h11 ?_
  cbv
  (repeat (first | exact trivial | refine And.intro (Emb.Pur _ _) ?_ | refine And.intro rfl ?_))
  ((try cbv) <;> (repeat ((with_reducible refine EW.of ?_); cbv)))
  refine ⟨q, B.l.l r, by show q = q8 + s.size; omega, by rw [List.take_of_length_le (by omega), hr2, B.l.app, B.bytes s.data.toList], by omega, by omega, ?_⟩
  cbv
  ((try cbv) <;> (repeat ((with_reducible refine EW.of ?_); cbv)))
  exact And.intro (B.l.cut hq) (And.intro (B.l.Pur _) trivial)
set_option maxHeartbeats 4000000 in
theorem Node15 (A : Ar) (E : Em) (B : EmB) {P : Program} (hP : P = Try.prog) : ∀ (sz : Nat) (t : Tree), SizeOf.sizeOf t ≤ sz → ∀ (xs r : List UInt8), xs ++ nodeBs t = r → r.length ≤ 100000000 →
    TPure P 15 [.sl 1 (B.l.l xs), E.tree.v t] (.sl 1 (B.l.l r)) := by
  intro sz
  induction sz with
  | zero =>
    rintro ⟨i, k, s, ks⟩ hsz
    have : 0 < SizeOf.sizeOf (Tree.node i k s ks) := by simp only [Tree.node.sizeOf_spec]; omega
    omega
  | succ sz ih =>
  rintro ⟨i, k, s, ks⟩ hsz xs r hr hb
  rw [E.node]
  have hek := E.tree.len ks
  have hlk : A.len (E.tree.l ks) = (ks.length : Int) := by rw [A.ok_len, hek]
  rw [nodeBs] at hr
  have hrl := app_len hr
  have htx : s.data.toList.length = s.size := by rw [Array.length_toList]; rfl
  simp only [List.length_append, numBs_len, htx] at hrl
  have hge := nodesBs_ge ks
  obtain ⟨x1, hx1⟩ : ∃ x1, xs ++ numBs i = x1 := ⟨_, rfl⟩
  obtain ⟨x2, hx2⟩ : ∃ x2, x1 ++ numBs k = x2 := ⟨_, rfl⟩
  obtain ⟨x3, hx3⟩ : ∃ x3, x2 ++ (numBs s.size ++ s.data.toList) = x3 := ⟨_, rfl⟩
  obtain ⟨x4, hx4⟩ : ∃ x4, x3 ++ numBs (A.len (E.tree.l ks)) = x4 := ⟨_, rfl⟩
  rw [← List.append_assoc, hx1, ← List.append_assoc, hx2, ← List.append_assoc, hx3, ← List.append_assoc] at hr
  have hx4' : x3 ++ numBs (ks.length : Int) = x4 := by rw [← hx4, hlk]
  rw [hx4'] at hr
  have hl1 := app_len hx1
  have hl2 := app_len hx2
  have hl3 := app_len hx3
  have hl4 := app_len hx4
  rw [numBs_len] at hl1 hl2 hl4
  rw [text_len] at hl3
  have hl5 := app_len hr
  have c1 := Number11 A B hP xs (by omega) i x1 hx1
  have c2 := Number11 A B hP x1 (by omega) k x2 hx2
  have c3 := Text13 A B hP x2 (by omega) s (by omega) x3 hx3
  have c4 := Number11 A B hP x3 (by omega) (A.len (E.tree.l ks)) x4 hx4
  clear hx1 hx2 hx3 hx4 hx4'
  refine TPure.ofE A T0 (T0_ok hP) (hP ▸ Try.func15) rfl _ rfl (by simp) ?_
  cbv
  refine EW.vs [(4, .nils), (3, .imm [.int .i64 i, .int .i64 k, .str s, .sl 4 (E.tree.l ks)]), (0, .sl 1 (B.l.l xs))] [] 38 rfl ?_
  cbv
  (repeat (first | exact trivial | refine And.intro (Emb.Pur _ _) ?_ | refine And.intro rfl ?_ | refine And.intro (Pur.mk (by (repeat (first | exact rfl | exact Emb.purL _ _ | assumption | apply pur_cons | apply pur_sl | apply pur_slt | apply pur_agg | apply pur_tup)))) ?_))
  ((try cbv) <;> (repeat ((with_reducible refine EW.of ?_); cbv)))
  (refine ⟨Ent.of (hP ▸ Try.func11) rfl, ?_⟩; refine TC.pureE c1 ?_; cbv; (repeat (first | exact trivial | refine And.intro (Emb.Pur _ _) ?_ | refine And.intro rfl ?_ | refine And.intro (Pur.mk rfl) ?_ | refine And.intro (Pur.mk (by assumption)) ?_)); ((try cbv) <;> (repeat ((with_reducible refine EW.of ?_); cbv))))
  (refine ⟨Ent.of (hP ▸ Try.func11) rfl, ?_⟩; refine TC.pureE c2 ?_; cbv; (repeat (first | exact trivial | refine And.intro (Emb.Pur _ _) ?_ | refine And.intro rfl ?_ | refine And.intro (Pur.mk rfl) ?_ | refine And.intro (Pur.mk (by assumption)) ?_)); ((try cbv) <;> (repeat ((with_reducible refine EW.of ?_); cbv))))
  (refine ⟨Ent.of (hP ▸ Try.func13) rfl, ?_⟩; refine TC.pureE c3 ?_; cbv; (repeat (first | exact trivial | refine And.intro (Emb.Pur _ _) ?_ | refine And.intro rfl ?_ | refine And.intro (Pur.mk rfl) ?_ | refine And.intro (Pur.mk (by assumption)) ?_)); ((try cbv) <;> (repeat ((with_reducible refine EW.of ?_); cbv))))
  (refine ⟨Ent.of (hP ▸ Try.func11) rfl, ?_⟩; refine TC.pureE c4 ?_; cbv; (repeat (first | exact trivial | refine And.intro (Emb.Pur _ _) ?_ | refine And.intro rfl ?_ | refine And.intro (Pur.mk rfl) ?_ | refine And.intro (Pur.mk (by assumption)) ?_)); ((try cbv) <;> (repeat ((with_reducible refine EW.of ?_); cbv))))
  clear c1 c2 c3 c4
  obtain ⟨S, hS⟩ : ∃ S : LI (Nat × List UInt8), S = ⟨fun x => [(5, .int .i64 x.1), (4, .nils), (3, .imm [.int .i64 i, .int .i64 k, .str s, .sl 4 (E.tree.l ks)]), (0, .sl 1 (B.l.l x.2))], fun x => [], fun x => x.1 ≤ ks.length ∧ x.2 = x4 ++ nodesBs (ks.take x.1), fun x => ks.length - x.1⟩ := ⟨_, rfl⟩
  refine TW.loopM A (T0_ok hP) S _ rfl (0, x4) ?_ ?_ ?_
  · rw [hS]; exact ⟨Nat.zero_le _, by rw [List.take_zero, nodesBs, List.append_nil]⟩
  · rw [hS]
    cbv
    (repeat (first | exact trivial | refine And.intro (Emb.Pur _ _) ?_ | refine And.intro rfl ?_))
  rintro ⟨j, l⟩ hj l1 L1 e1 e2
  rw [hS] at hj e1 e2
  dsimp only at hj e1 e2
  obtain ⟨hj, hl⟩ := hj
  subst e1 e2
  cbv
  ((try cbv) <;> (repeat ((with_reducible refine EW.of ?_); cbv)))
  refine bsplit (fun h => ?_) (fun h => ?_)
  · have h : j < ks.length := lt_nt h rfl hlk
    obtain ⟨t', ht⟩ : ∃ t', ks[j]? = some t' := ⟨_, List.getElem?_eq_getElem h⟩
    have hmem := List.mem_of_getElem? ht
    have hsz' := Tree.kid_lt (i := i) (k := k) (s := s) hmem
    have hnx := nodesBs_take ht
    obtain ⟨l2, hl2⟩ : ∃ l2, l ++ nodeBs t' = l2 := ⟨_, rfl⟩
    have hl2' : l2 = x4 ++ nodesBs (ks.take (j + 1)) := by rw [hnx, ← List.append_assoc, ← hl, hl2]
    have hle := nodesBs_le ks (j + 1)
    have hlen2 : l2.length = x4.length + (nodesBs (ks.take (j + 1))).length := by rw [hl2', List.length_append]
    have hrec := ih t' (by omega) l l2 hl2 (by omega)
    have hget := E.tree.get ht
    obtain ⟨i', k', s', ks'⟩ := t'
    rw [E.node] at hget hrec
    ((try cbv) <;> (repeat ((with_reducible refine EW.of ?_); cbv)))
    refine ⟨j, _, rfl, hget, ?_⟩
    cbv
    ((try cbv) <;> (repeat ((with_reducible refine EW.of ?_); cbv)))
    (refine ⟨Ent.of (hP ▸ Try.func15) rfl, ?_⟩; refine TC.pureE hrec ?_; cbv; (repeat (first | exact trivial | refine And.intro (Emb.Pur _ _) ?_ | refine And.intro rfl ?_ | refine And.intro (Pur.mk rfl) ?_ | refine And.intro (Pur.mk (by assumption)) ?_)); ((try cbv) <;> (repeat ((with_reducible refine EW.of ?_); cbv))))
    refine LM.of (j + 1, l2) rfl ?_ ?_ ?_
    · rw [hS]; exact ⟨by show j + 1 ≤ ks.length; omega, hl2'⟩
    · rw [hS]; show ks.length - (j + 1) < ks.length - j; omega
    · rw [hS]
      cbv
      (repeat (first | exact trivial | refine And.intro (Emb.Pur _ _) ?_ | refine And.intro (inc_eq A (by omega)) ?_ | refine And.intro rfl ?_))
  · have h : ks.length ≤ j := lt_nf h rfl hlk
    obtain rfl : l = r := by rw [hl, List.take_of_length_le (by omega), hr]
    ((try cbv) <;> (repeat ((with_reducible refine EW.of ?_); cbv)))
    exact And.intro (B.l.Pur _) trivial
end Go.Proofs.Ytmbbdabcbnemiaa
