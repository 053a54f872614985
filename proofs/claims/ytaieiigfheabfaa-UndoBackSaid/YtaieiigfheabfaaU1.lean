import Derived.Test.YtaieiigfheabfaaTy
import Derived.Test.YtaieiigfheabfaaTw6
import Derived.Test.YtaieiigfheabfaaTw7
import Derived.Test.YtaieiigfheabfaaTw11
import Derived.Test.YtaieiigfheabfaaTw12
/-! Trees and rows as abstract values; the first functions. -/
namespace Go.Proofs.Ytaieiigfheabfaa
open Go.Proofs.Ytaieiigfheabfaa.Tw
def ints (l : List Int) : List AV := l.map fun i => .int .i64 i
theorem ints_len (l : List Int) : (ints l).length = l.length := by simp [ints]
theorem ints_get {l : List Int} {k : Nat} {i : Int} (h : l[k]? = some i) : (ints l)[k]? = some (.int .i64 i) := by simp [ints, h]
theorem ints_pur (l : List Int) : purL (ints l) = true := purL_of (by simp [ints, AV.pur])
end Go.Proofs.Ytaieiigfheabfaa

/-! Trees as abstract values; the walk of a tree. -/
namespace Go.Proofs.Ytaieiigfheabfaa
open Go.Proofs.Ytaieiigfheabfaa.Tw
inductive Tree where
  | node (id kind : Int) (text : ByteArray) (kids : List Tree)
  deriving Inhabited
mutual
def Tree.av : Tree → AV
  | .node i k s ks => .agg [.int .i64 i, .int .i64 k, .str s, .sl 4 (avs ks)]
def avs : List Tree → List AV
  | [] => []
  | t :: ts => t.av :: avs ts
end
theorem avs_map : ∀ ts : List Tree, avs ts = ts.map Tree.av
  | [] => rfl
  | t :: ts => by rw [avs, avs_map ts]; rfl
theorem avs_len (ts : List Tree) : (avs ts).length = ts.length := by rw [avs_map]; simp
theorem avs_get {ts : List Tree} {k : Nat} {t : Tree} (h : ts[k]? = some t) : (avs ts)[k]? = some t.av := by rw [avs_map]; simp [h]
mutual
theorem Tree.av_pur : ∀ t : Tree, t.av.pur = true
  | .node i k s ks => by simp only [Tree.av, AV.pur, purL, Bool.true_and, Bool.and_true]; exact avs_pur ks
theorem avs_pur : ∀ ts : List Tree, purL (avs ts) = true
  | [] => rfl
  | t :: ts => by simp only [avs, purL, Bool.and_eq_true]; exact ⟨t.av_pur, avs_pur ts⟩
end
/-- No row is longer than a number can tell. -/
inductive Tree.ok : Tree → Prop
  | node {i k : Int} {s : ByteArray} {ks : List Tree} (h : ks.length ≤ 9223372036854775807) (hk : ∀ t ∈ ks, t.ok) : Tree.ok (.node i k s ks)
theorem Tree.ok.len {i k : Int} {s : ByteArray} {ks : List Tree} (h : Tree.ok (.node i k s ks)) : ks.length ≤ 9223372036854775807 := by cases h; assumption
theorem Tree.ok.kid {i k : Int} {s : ByteArray} {ks : List Tree} (h : Tree.ok (.node i k s ks)) {t : Tree} (ht : t ∈ ks) : t.ok := by cases h with | node _ hk => exact hk t ht
theorem Tree.kid_lt {i k : Int} {s : ByteArray} {ks : List Tree} {t : Tree} (ht : t ∈ ks) : SizeOf.sizeOf t < SizeOf.sizeOf (Tree.node i k s ks) := by
  have := List.sizeOf_lt_of_mem ht
  simp only [Tree.node.sizeOf_spec]
  omega
/-- A node of a walk. -/
def spot : Tree × Nat → AV
  | (.node i k s ks, d) => .agg [.int .i64 i, .int .i64 k, .str s, .sl 4 (avs ks), .int .i64 d]
def spots (l : List (Tree × Nat)) : List AV := l.map spot
theorem spots_len (l : List (Tree × Nat)) : (spots l).length = l.length := by simp [spots]
theorem spots_get {l : List (Tree × Nat)} {k : Nat} {x : Tree × Nat} (h : l[k]? = some x) : (spots l)[k]? = some (spot x) := by simp [spots, h]
theorem spot_pur (x : Tree × Nat) : (spot x).pur = true := by
  obtain ⟨⟨i, k, s, ks⟩, d⟩ := x
  simp only [spot, AV.pur, purL, Bool.true_and, Bool.and_true]
  exact avs_pur ks
theorem spots_pur (l : List (Tree × Nat)) : purL (spots l) = true := purL_of (by
  intro a ha
  obtain ⟨x, _, rfl⟩ := List.mem_map.1 ha
  exact spot_pur x)
mutual
def walkT (m : Nat) : Tree → List (Tree × Nat) → Nat → List (Tree × Nat)
  | .node i k s ks, l, d => if m ≤ l.length then l else walkK m ks (l ++ [(.node i k s ks, d)]) (d + 1)
def walkK (m : Nat) : List Tree → List (Tree × Nat) → Nat → List (Tree × Nat)
  | [], l, _ => l
  | t :: ts, l, d => walkK m ts (walkT m t l d) d
end
theorem walkK_app (m : Nat) : ∀ (a b : List Tree) (l : List (Tree × Nat)) (d : Nat), walkK m (a ++ b) l d = walkK m b (walkK m a l d) d
  | [], b, l, d => rfl
  | t :: a, b, l, d => by simp only [List.cons_append, walkK]; exact walkK_app m a b _ d
mutual
theorem walkT_len (m : Nat) : ∀ (t : Tree) (l : List (Tree × Nat)) (d : Nat), l.length ≤ (walkT m t l d).length ∧ (l.length ≤ m → (walkT m t l d).length ≤ m)
  | .node i k s ks, l, d => by
    simp only [walkT]
    split
    · exact ⟨Nat.le_refl _, id⟩
    · have := walkK_len m ks (l ++ [(.node i k s ks, d)]) (d + 1)
      simp at this
      exact ⟨by omega, fun _ => this.2 (by omega)⟩
theorem walkK_len (m : Nat) : ∀ (ts : List Tree) (l : List (Tree × Nat)) (d : Nat), l.length ≤ (walkK m ts l d).length ∧ (l.length ≤ m → (walkK m ts l d).length ≤ m)
  | [], l, d => ⟨Nat.le_refl _, id⟩
  | t :: ts, l, d => by
    simp only [walkK]
    have h1 := walkT_len m t l d
    have h2 := walkK_len m ts (walkT m t l d) d
    exact ⟨by omega, fun h => h2.2 (h1.2 h)⟩
end
/-- What a walk's call leaves: the row, grown. -/
def walkR (l : List (Tree × Nat)) : AEnd → Store → Prop := fun x L' => x = .ret (.row 1 5 0 l.length) ∧ L' = [none, some (.arr 5 (spots l))]
set_option maxRecDepth 20000 in
theorem walk61 (A : Ar) {P : Program} (hP : P = Try.prog) (m : Nat) (hm : m ≤ 1000000) : ∀ (n : Nat) (t : Tree), SizeOf.sizeOf t ≤ n → t.ok → ∀ (l : List (Tree × Nat)) (d : Nat), l.length ≤ m → d ≤ l.length + 1 →
    TC P 31 [.row 0 5 0 l.length, t.av, .int .i64 d, .int .i64 m] [some (.arr 5 (spots l))] (walkR (walkT m t l d)) := by
  intro n
  induction n with
  | zero => intro t h; cases t; simp at h
  | succ n ih =>
  intro t hs hok l d hl hd
  obtain ⟨i, k, s, ks⟩ := t
  refine TC.of_ewp A T0 (T0_ok hP) (hP ▸ Try.func31) rfl _ rfl (by simp) ?_
  simp only [Tree.av]
  generalize hsp : spots l = sp
  generalize hks : avs ks = aks
  generalize hn : l.length = nl
  generalize hR : walkR (walkT m (Tree.node i k s ks) l d) = R
  cbv
  ((try cbv) <;> (repeat ((with_reducible refine EW.of ?_); cbv)))
  refine bsplit (fun h => ?_) (fun h => ?_)
  · have h : m ≤ nl := le_nt h rfl (A.ok_nat _)
    ((try cbv) <;> (repeat ((with_reducible refine EW.of ?_); cbv)))
    refine ⟨_, _, VSV.settle (o := .arr 5 sp) 0 1 (Nat.le_refl _) (Nat.le_succ 1) rfl (uptoL_pur 1 _ (hsp ▸ spots_pur l)) rfl (.row 5 0 nl), ?_⟩
    rw [← hR, walkT, if_pos (by omega)]
    exact ⟨by rw [hn], by rw [hsp]; rfl⟩
  · have h : nl < m := le_nf h rfl (A.ok_nat _)
    ((try cbv) <;> (repeat ((with_reducible refine EW.of ?_); cbv)))
    refine ⟨⟨rfl⟩, nl + 1, spots (l ++ [(.node i k s ks, d)]), rfl, ?_, ?_, by omega, by omega, ?_⟩
    · have : sp.take nl = sp := List.take_of_length_le (by rw [← hsp, spots_len]; omega)
      rw [this]
      simp [spots, ← hsp, ← hks, spot]
    · rw [← hsp, spots_len]; omega
    generalize hsp1 : spots (l ++ [(.node i k s ks, d)]) = sp1
    ((try cbv) <;> (repeat ((with_reducible refine EW.of ?_); cbv)))
    obtain ⟨J, hJ⟩ : ∃ J : Nat → AFr → Store → Prop, J = fun c fr L => ∃ j : Nat, c = ks.length - j ∧ j ≤ ks.length ∧ ∃ l' : List (Tree × Nat), l' = walkK m (ks.take j) (l ++ [(.node i k s ks, d)]) (d + 1) ∧
      fr = ⟨39, [(9, .int .i64 j), (0, .row 2 5 0 l'.length), (5, .ref 1 4 0 0), (2, .int .i64 d), (3, .int .i64 m)]⟩ ∧ L = [none, some (.box 4 (.agg [.int .i64 i, .int .i64 k, .str s, .sl 4 aks])), some (.arr 5 (spots l'))] := ⟨_, rfl⟩
    refine TW.loopE A (T0_ok hP) J (n0 := ks.length)
      (fr0 := ⟨39, [(9, .int .i64 0), (0, .row 2 5 0 (nl + 1)), (5, .ref 1 4 0 0), (2, .int .i64 d), (3, .int .i64 m)]⟩) (L0 := [none, some (.box 4 (.agg [.int .i64 i, .int .i64 k, .str s, .sl 4 aks])), some (.arr 5 sp1)])
      (VS.pick rfl (.cons (Sub.refl _) (.cons (Sub.refl _) (.cons (Sub.refl _) (.cons (Sub.refl _) (.cons (Sub.refl _) .nil)))))) (by rw [hJ]; exact ⟨0, rfl, by omega, _, rfl, by simp [walkK, hn], by simp [walkK, hsp1]⟩) ?_
    intro c fr L hj
    rw [hJ] at hj
    obtain ⟨j, hc, hj, l', hl', rfl, rfl⟩ := hj
    generalize hsp' : spots l' = sp'
    generalize hn' : l'.length = nl'
    cbv
    ((try cbv) <;> (repeat ((with_reducible refine EW.of ?_); cbv)))
    refine bsplit (fun h => ?_) (fun h => ?_)
    · have h : j < aks.length := lt_nt h rfl (A.ok_len _)
      have hjk : j < ks.length := by rw [← hks, avs_len] at h; exact h
      obtain ⟨t', ht'⟩ : ∃ t', ks[j]? = some t' := ⟨_, List.getElem?_eq_getElem hjk⟩
      have hmem : t' ∈ ks := List.mem_of_getElem? ht'
      have hlt := Tree.kid_lt (i := i) (k := k) (s := s) hmem
      have hl1 := walkK_len m (ks.take j) (l ++ [(.node i k s ks, d)]) (d + 1)
      simp at hl1
      rw [← hl'] at hl1
      have hrec := ih t' (by omega) (hok.kid hmem) l' (d + 1) (hl1.2 (by omega)) (by omega)
      have hav := avs_get ht'
      rw [hks] at hav
      have hnext : walkT m t' l' (d + 1) = walkK m (ks.take (j + 1)) (l ++ [(.node i k s ks, d)]) (d + 1) := by
        rw [List.take_add_one, ht', walkK_app, ← hl']; rfl
      have hd1 : d + 1 < 9223372036854775807 := by omega
      obtain ⟨i', k', s', ks'⟩ := t'
      simp only [Tree.av] at hrec hav
      have hpk := avs_pur ks'
      generalize avs ks' = aks' at hrec hav hpk
      have hsp2 := spots_pur (walkT m (.node i' k' s' ks') l' (d + 1))
      have hsp0 := spots_pur l'
      rw [hnext] at hsp2 hrec
      generalize hl2 : walkK m (ks.take (j + 1)) (l ++ [(.node i k s ks, d)]) (d + 1) = l2 at hsp2 hrec
      rw [hn', hsp'] at hrec
      unfold walkR at hrec
      generalize hn2 : l2.length = n2 at hrec
      generalize hsq : spots l2 = sp2 at hrec hsp2
      have hlen := hok.len
      ((try cbv) <;> (repeat ((with_reducible refine EW.of ?_); cbv)))
      refine ⟨j, _, rfl, hav, ?_⟩
      cbv
      refine ⟨Ent.of (hP ▸ Try.func31) rfl, ?_⟩
      refine TC.row (q := 2) (n' := n2) (els' := sp2) hrec rfl (hsp' ▸ hsp0) hsp2 (.cons (.row (p := 0) 5 0 nl' rfl) (.cons (.pure (by simpa [AV.pur, purL] using hpk)) (.cons (.int (inc_eq A (by omega)).symm) (.cons (.pure rfl) .nil)))) ?_
      cbv
      ((try cbv) <;> (repeat ((with_reducible refine EW.of ?_); cbv)))
      refine ⟨ks.length - (j + 1), ⟨39, [(9, .int .i64 ((j + 1 : Nat) : Int)), (0, .row 2 5 0 n2), (5, .ref 1 4 0 0), (2, .int .i64 d), (3, .int .i64 m)]⟩, [none, some (.box 4 (.agg [.int .i64 i, .int .i64 k, .str s, .sl 4 aks])), some (.arr 5 (sp2))], by omega,
        VS.trans (VS.pick (l := [(9, .int .i64 ((j + 1 : Nat) : Int)), (0, .row 3 5 0 n2), (5, .ref 1 4 0 0), (2, .int .i64 d), (3, .int .i64 m)]) rfl (.cons (Sub.inc A (by omega)) (.cons (Sub.refl _) (.cons (Sub.refl _) (.cons (Sub.refl _) (.cons (Sub.refl _) .nil))))))
          (VS.settle (o := .arr 5 (sp2)) 3 2 rfl (by decide) (Nat.le_succ_of_le (Nat.le_succ 2)) rfl (uptoL_pur 2 _ hsp2) ?_ (.cons (.keep _ rfl) (.cons (.row 5 0 n2) (.cons (.keep _ rfl) (.cons (.keep _ rfl) (.cons (.keep _ rfl) .nil)))))), ?_⟩
      · have hpa := avs_pur ks
        rw [hks] at hpa
        have := uptoL_pur 2 _ hpa
        simp [oUpto, AO.upto, AV.upto, uptoL, this]
      · rw [hJ]; exact ⟨j + 1, rfl, by omega, l2, hl2.symm, by rw [hn2], by rw [hsq]⟩
    · have h : aks.length ≤ j := lt_nf h rfl (A.ok_len _)
      have hjk : j = ks.length := by rw [← hks, avs_len] at h; omega
      ((try cbv) <;> (repeat ((with_reducible refine EW.of ?_); cbv)))
      refine ⟨_, _, VSV.settle (o := .arr 5 sp') 2 1 (Nat.le_refl _) (Nat.le_succ_of_le (Nat.le_succ 1)) rfl (uptoL_pur 1 _ (hsp' ▸ spots_pur l')) rfl (.row 5 0 nl'), ?_⟩
      rw [hjk, List.take_length] at hl'
      rw [← hR, walkT, if_neg (by omega), ← hl']
      exact ⟨by rw [hn'], by rw [hsp']; rfl⟩
end Go.Proofs.Ytaieiigfheabfaa

/-! Walk, Great. -/
namespace Go.Proofs.Ytaieiigfheabfaa
open Go.Proofs.Ytaieiigfheabfaa.Tw
set_option maxRecDepth 20000 in
theorem walk61n (A : Ar) {P : Program} (hP : P = Try.prog) (m : Nat) (hm : m ≤ 1000000) (hm1 : 1 ≤ m) (t : Tree) (hok : t.ok) :
    TC P 31 [.nils, t.av, .int .i64 1, .int .i64 m] [] (fun x L' => x = .ret (.row 0 5 0 (walkT m t [] 1).length) ∧ L' = [some (.arr 5 (spots (walkT m t [] 1)))]) := by
  obtain ⟨i, k, s, ks⟩ := t
  obtain ⟨l, hl0⟩ : ∃ l : List (Tree × Nat), l = [] := ⟨_, rfl⟩
  obtain ⟨d, hd0⟩ : ∃ d : Nat, d = 1 := ⟨_, rfl⟩
  have hl : l.length ≤ m := by rw [hl0]; exact Nat.zero_le _
  have hd : d ≤ l.length + 1 := by rw [hl0, hd0]; exact Nat.le_refl _
  obtain ⟨nl, hn⟩ : ∃ nl, l.length = nl := ⟨_, rfl⟩
  have hnl : nl = 0 := by rw [← hn, hl0]; rfl
  simp only [Tree.av]
  generalize hks : avs ks = aks
  rw [show (1 : Int) = ((d : Nat) : Int) from by rw [hd0]; rfl, show walkT m (Tree.node i k s ks) [] 1 = walkT m (Tree.node i k s ks) l d from by rw [hl0, hd0]]
  refine TC.of_ewp A T0 (T0_ok hP) (hP ▸ Try.func31) rfl _ rfl (by simp) ?_
  generalize hR : (fun (x : AEnd) (L' : Store) => x = AEnd.ret (.row 0 5 0 (walkT m (Tree.node i k s ks) l d).length) ∧ L' = [some (.arr 5 (spots (walkT m (Tree.node i k s ks) l d)))]) = R
  cbv
  ((try cbv) <;> (repeat ((with_reducible refine EW.of ?_); cbv)))
  refine bsplit (fun h => ?_) (fun h => ?_)
  · have h : (m : Int) ≤ 0 := le_t h rfl rfl
    omega
  · ((try cbv) <;> (repeat ((with_reducible refine EW.of ?_); cbv)))
    refine ⟨⟨rfl⟩, nl + 1, spots (l ++ [(.node i k s ks, d)]), by rw [hnl]; rfl, by rw [hl0]; simp [spots, ← hks, spot], by simp, by omega, by omega, ?_⟩
    have h : nl < m := by omega
    have ih := fun (t : Tree) (hok : t.ok) => walk61 A hP m hm (SizeOf.sizeOf t) t (Nat.le_refl _) hok
    generalize hsp1 : spots (l ++ [(.node i k s ks, d)]) = sp1
    ((try cbv) <;> (repeat ((with_reducible refine EW.of ?_); cbv)))
    obtain ⟨J, hJ⟩ : ∃ J : Nat → AFr → Store → Prop, J = fun c fr L => ∃ j : Nat, c = ks.length - j ∧ j ≤ ks.length ∧ ∃ l' : List (Tree × Nat), l' = walkK m (ks.take j) (l ++ [(.node i k s ks, d)]) (d + 1) ∧
      fr = ⟨39, [(9, .int .i64 j), (0, .row 1 5 0 l'.length), (5, .ref 0 4 0 0), (2, .int .i64 d), (3, .int .i64 m)]⟩ ∧ L = [some (.box 4 (.agg [.int .i64 i, .int .i64 k, .str s, .sl 4 aks])), some (.arr 5 (spots l'))] := ⟨_, rfl⟩
    refine TW.loopE A (T0_ok hP) J (n0 := ks.length)
      (fr0 := ⟨39, [(9, .int .i64 0), (0, .row 1 5 0 (nl + 1)), (5, .ref 0 4 0 0), (2, .int .i64 d), (3, .int .i64 m)]⟩) (L0 := [some (.box 4 (.agg [.int .i64 i, .int .i64 k, .str s, .sl 4 aks])), some (.arr 5 sp1)])
      (VS.pick rfl (.cons (Sub.refl _) (.cons (Sub.refl _) (.cons (Sub.refl _) (.cons (Sub.refl _) (.cons (Sub.refl _) .nil)))))) (by rw [hJ]; exact ⟨0, rfl, by omega, _, rfl, by simp [walkK, hn], by simp [walkK, hsp1]⟩) ?_
    intro c fr L hj
    rw [hJ] at hj
    obtain ⟨j, hc, hj, l', hl', rfl, rfl⟩ := hj
    generalize hsp' : spots l' = sp'
    generalize hn' : l'.length = nl'
    cbv
    ((try cbv) <;> (repeat ((with_reducible refine EW.of ?_); cbv)))
    refine bsplit (fun h => ?_) (fun h => ?_)
    · have h : j < aks.length := lt_nt h rfl (A.ok_len _)
      have hjk : j < ks.length := by rw [← hks, avs_len] at h; exact h
      obtain ⟨t', ht'⟩ : ∃ t', ks[j]? = some t' := ⟨_, List.getElem?_eq_getElem hjk⟩
      have hmem : t' ∈ ks := List.mem_of_getElem? ht'
      have hl1 := walkK_len m (ks.take j) (l ++ [(.node i k s ks, d)]) (d + 1)
      simp at hl1
      rw [← hl'] at hl1
      have hrec := ih t' (hok.kid hmem) l' (d + 1) (hl1.2 (by omega)) (by omega)
      have hav := avs_get ht'
      rw [hks] at hav
      have hnext : walkT m t' l' (d + 1) = walkK m (ks.take (j + 1)) (l ++ [(.node i k s ks, d)]) (d + 1) := by
        rw [List.take_add_one, ht', walkK_app, ← hl']; rfl
      have hd1 : d + 1 < 9223372036854775807 := by omega
      obtain ⟨i', k', s', ks'⟩ := t'
      simp only [Tree.av] at hrec hav
      have hpk := avs_pur ks'
      generalize avs ks' = aks' at hrec hav hpk
      have hsp2 := spots_pur (walkT m (.node i' k' s' ks') l' (d + 1))
      have hsp0 := spots_pur l'
      rw [hnext] at hsp2 hrec
      generalize hl2 : walkK m (ks.take (j + 1)) (l ++ [(.node i k s ks, d)]) (d + 1) = l2 at hsp2 hrec
      rw [hn', hsp'] at hrec
      unfold walkR at hrec
      generalize hn2 : l2.length = n2 at hrec
      generalize hsq : spots l2 = sp2 at hrec hsp2
      have hlen := hok.len
      ((try cbv) <;> (repeat ((with_reducible refine EW.of ?_); cbv)))
      refine ⟨j, _, rfl, hav, ?_⟩
      cbv
      refine ⟨Ent.of (hP ▸ Try.func31) rfl, ?_⟩
      refine TC.row (q := 1) (n' := n2) (els' := sp2) hrec rfl (hsp' ▸ hsp0) hsp2 (.cons (.row (p := 0) 5 0 nl' rfl) (.cons (.pure (by simpa [AV.pur, purL] using hpk)) (.cons (.int (inc_eq A (by omega)).symm) (.cons (.pure rfl) .nil)))) ?_
      cbv
      ((try cbv) <;> (repeat ((with_reducible refine EW.of ?_); cbv)))
      refine ⟨ks.length - (j + 1), ⟨39, [(9, .int .i64 ((j + 1 : Nat) : Int)), (0, .row 1 5 0 n2), (5, .ref 0 4 0 0), (2, .int .i64 d), (3, .int .i64 m)]⟩, [some (.box 4 (.agg [.int .i64 i, .int .i64 k, .str s, .sl 4 aks])), some (.arr 5 (sp2))], by omega,
        VS.trans (VS.pick (l := [(9, .int .i64 ((j + 1 : Nat) : Int)), (0, .row 2 5 0 n2), (5, .ref 0 4 0 0), (2, .int .i64 d), (3, .int .i64 m)]) rfl (.cons (Sub.inc A (by omega)) (.cons (Sub.refl _) (.cons (Sub.refl _) (.cons (Sub.refl _) (.cons (Sub.refl _) .nil))))))
          (VS.settle (o := .arr 5 (sp2)) 2 1 rfl (by decide) (Nat.le_succ_of_le (Nat.le_succ 1)) rfl (uptoL_pur 1 _ hsp2) ?_ (.cons (.keep _ rfl) (.cons (.row 5 0 n2) (.cons (.keep _ rfl) (.cons (.keep _ rfl) (.cons (.keep _ rfl) .nil)))))), ?_⟩
      · have hpa := avs_pur ks
        rw [hks] at hpa
        have := uptoL_pur 1 _ hpa
        simp [oUpto, AO.upto, AV.upto, uptoL, this]
      · rw [hJ]; exact ⟨j + 1, rfl, by omega, l2, hl2.symm, by rw [hn2], by rw [hsq]⟩
    · have h : aks.length ≤ j := lt_nf h rfl (A.ok_len _)
      have hjk : j = ks.length := by rw [← hks, avs_len] at h; omega
      ((try cbv) <;> (repeat ((with_reducible refine EW.of ?_); cbv)))
      refine ⟨_, _, VSV.settle (o := .arr 5 sp') 1 0 (Nat.le_refl _) (Nat.zero_le _) rfl (uptoL_pur 0 _ (hsp' ▸ spots_pur l')) rfl (.row 5 0 nl'), ?_⟩
      rw [hjk, List.take_length] at hl'
      rw [← hR, walkT, if_neg (by omega), ← hl']
      exact ⟨by rw [hn'], by rw [hsp']; rfl⟩

/-- The walk of a whole tree. -/
theorem Walk23 (A : Ar) {P : Program} (hP : P = Try.prog) (m : Nat) (hm : m ≤ 1000000) (hm1 : 1 ≤ m) (t : Tree) (hok : t.ok) : TPure P 15 [t.av, .int .i64 m] (.sl 5 (spots (walkT m t [] 1))) := by
  refine TPure.of (TC.of_ewp A T0 (T0_ok hP) (hP ▸ Try.func15) rfl _ rfl (by simp) ?_)
  have h61 := walk61n A hP m hm hm1 t hok
  have hp := spots_pur (walkT m t [] 1)
  have hl := spots_len (walkT m t [] 1)
  obtain ⟨i, k, s, ks⟩ := t
  simp only [Tree.av] at h61 ⊢
  have hpk := avs_pur ks
  generalize avs ks = aks at h61 hpk
  generalize (walkT m (Tree.node i k s ks) [] 1) = l at h61 hp hl
  generalize spots l = sp at h61 hp hl
  generalize l.length = n at h61 hl
  cbv
  ((try cbv) <;> (repeat ((with_reducible refine EW.of ?_); cbv)))
  refine ⟨Ent.of (hP ▸ Try.func31) rfl, ?_⟩
  refine TC.row0 (n' := n) (els' := sp) h61 hp (.cons (.pure rfl) (.cons (.pure (by simpa [AV.pur, purL] using hpk)) (.cons (.pure rfl) (.cons (.pure rfl) .nil)))) ?_
  cbv
  ((try cbv) <;> (repeat ((with_reducible refine EW.of ?_); cbv)))
  exact ⟨_, _, VSV.trans (VSV.freeze (v' := .sl 5 sp) (p := 1) (els := sp) rfl (.whole hl.symm)) (VSV.pure (by simpa [AV.pur] using hp)), rfl, rfl⟩
/-- Whether a tree is more than is asked of. -/
def great (t : Tree) : Bool := decide (2000 < (walkT 2001 t [] 1).length) || (walkT 2001 t [] 1).any fun x => decide (2000 < x.2)
end Go.Proofs.Ytaieiigfheabfaa

/-! Depths, and walks whole (for seats without paths). -/
namespace Go.Proofs.Ytaieiigfheabfaa
open Go.Proofs.Ytaieiigfheabfaa.Tw
/-- No deeper than n, and no row longer than a number can tell. -/
def within : Nat → Tree → Prop
  | 0, _ => False
  | n + 1, .node _ _ _ ks => ks.length ≤ 1000000 ∧ ∀ t ∈ ks, within n t
theorem within.len' {n : Nat} {i k : Int} {s : ByteArray} {ks : List Tree} (h : within n (.node i k s ks)) : ks.length ≤ 1000000 := by cases n with | zero => exact h.elim | succ n => exact h.1
theorem within.len {n : Nat} {i k : Int} {s : ByteArray} {ks : List Tree} (h : within n (.node i k s ks)) : ks.length < 9223372036854775807 := by have := h.len'; omega
def t0 : Tree := .node 0 0 ⟨#[]⟩ []
mutual
theorem walkT_pre (m : Nat) : ∀ (t : Tree) (l : List (Tree × Nat)) (d : Nat), l <+: walkT m t l d
  | .node i k s ks, l, d => by
    simp only [walkT]
    split
    · exact List.prefix_refl _
    · exact List.IsPrefix.trans (List.prefix_append _ _) (walkK_pre m ks _ (d + 1))
theorem walkK_pre (m : Nat) : ∀ (ts : List Tree) (l : List (Tree × Nat)) (d : Nat), l <+: walkK m ts l d
  | [], l, d => List.prefix_refl _
  | t :: ts, l, d => by
    simp only [walkK]
    exact List.IsPrefix.trans (walkT_pre m t l d) (walkK_pre m ts _ d)
end
theorem walkT_more (m : Nat) (t : Tree) (l : List (Tree × Nat)) (d : Nat) (h : (walkT m t l d).length < m) : l.length + 1 ≤ (walkT m t l d).length ∧ (t, d) ∈ walkT m t l d := by
  obtain ⟨i, k, s, ks⟩ := t
  simp only [walkT] at h ⊢
  split at h
  · omega
  · rename_i hlt
    rw [if_neg hlt]
    have hp := walkK_pre m ks (l ++ [(.node i k s ks, d)]) (d + 1)
    exact ⟨by have := hp.length_le; simpa using this, hp.subset (by simp)⟩
mutual
theorem walkT_within (m D : Nat) (hm : m ≤ 1000000) : ∀ (t : Tree) (l : List (Tree × Nat)) (d : Nat), (walkT m t l d).length < m → (∀ x ∈ walkT m t l d, x.2 ≤ D) → d ≤ D ∧ within (D + 1 - d) t
  | .node i k s ks, l, d, h, hx => by
    have h1 := walkT_more m _ l d h
    have hd : d ≤ D := hx _ h1.2
    refine ⟨hd, ?_⟩
    simp only [walkT] at h hx
    split at h
    · omega
    rename_i hlt
    rw [if_neg hlt] at hx
    obtain ⟨h2, h3⟩ := walkK_within m D hm ks _ (d + 1) h hx
    rw [show D + 1 - d = (D + 1 - (d + 1)) + 1 from by omega]
    exact ⟨by omega, h3⟩
theorem walkK_within (m D : Nat) (hm : m ≤ 1000000) : ∀ (ts : List Tree) (l : List (Tree × Nat)) (d : Nat), (walkK m ts l d).length < m → (∀ x ∈ walkK m ts l d, x.2 ≤ D) → l.length + ts.length ≤ (walkK m ts l d).length ∧ ∀ t ∈ ts, within (D + 1 - d) t
  | [], l, d, h, hx => ⟨by simp [walkK], fun t ht => by cases ht⟩
  | t :: ts, l, d, h, hx => by
    simp only [walkK] at h hx ⊢
    have hp := walkK_pre m ts (walkT m t l d) d
    have hl := hp.length_le
    have h1 := walkT_within m D hm t l d (by omega) (fun x hx' => hx x (hp.subset hx'))
    have h2 := walkT_more m t l d (by omega)
    obtain ⟨h3, h4⟩ := walkK_within m D hm ts _ d h hx
    refine ⟨by simp only [List.length_cons]; omega, fun t' ht => ?_⟩
    rcases List.mem_cons.1 ht with rfl | ht
    · exact h1.2
    · exact h4 t' ht
end
theorem within_mono : ∀ {n m : Nat} {t : Tree}, n ≤ m → within n t → within m t
  | 0, _, _, _, h => h.elim
  | n + 1, 0, _, hn, h => by omega
  | n + 1, m + 1, .node i k s ks, hn, h => ⟨h.1, fun t ht => within_mono (by omega) (h.2 t ht)⟩
theorem great_within {t : Tree} (h : great t = false) : within 2000 t := by
  unfold great at h
  simp only [Bool.or_eq_false_iff, decide_eq_false_iff_not] at h
  have h2 : ∀ x ∈ walkT 2001 t [] 1, x.2 ≤ 2000 := fun x hx => by
    have := List.any_eq_false.1 h.2 x hx
    simpa using this
  exact (walkT_within 2001 2000 (by decide) t [] 1 (by omega) h2).2
mutual
/-- All nodes, with their depths, each ahead of its kids. -/
def preT : Tree → Nat → List (Tree × Nat)
  | .node i k s ks, d => (.node i k s ks, d) :: preK ks (d + 1)
def preK : List Tree → Nat → List (Tree × Nat)
  | [], _ => []
  | t :: ts, d => preT t d ++ preK ts d
end
mutual
theorem walkT_eq (m : Nat) : ∀ (t : Tree) (l : List (Tree × Nat)) (d : Nat), (walkT m t l d).length < m → walkT m t l d = l ++ preT t d
  | .node i k s ks, l, d, h => by
    simp only [walkT, preT] at h ⊢
    split at h
    · omega
    rename_i hlt
    rw [if_neg hlt, walkK_eq m ks _ (d + 1) h]
    simp
theorem walkK_eq (m : Nat) : ∀ (ts : List Tree) (l : List (Tree × Nat)) (d : Nat), (walkK m ts l d).length < m → walkK m ts l d = l ++ preK ts d
  | [], l, d, _ => by simp [walkK, preK]
  | t :: ts, l, d, h => by
    simp only [walkK, preK] at h ⊢
    have hp := (walkK_pre m ts (walkT m t l d) d).length_le
    rw [walkK_eq m ts _ d h, walkT_eq m t l d (by omega)]
    simp
end
mutual
theorem walkT_dep (m : Nat) : ∀ (t : Tree) (l : List (Tree × Nat)) (d : Nat), d ≤ l.length + 1 → ∀ x ∈ walkT m t l d, x ∈ l ∨ x.2 ≤ (walkT m t l d).length
  | .node i k s ks, l, d, hd, x, hx => by
    simp only [walkT] at hx ⊢
    split at hx
    · exact .inl hx
    rename_i hlt
    rw [if_neg hlt]
    have hp := (walkK_pre m ks (l ++ [(.node i k s ks, d)]) (d + 1)).length_le
    rcases walkK_dep m ks _ (d + 1) (by simp; omega) x hx with h | h
    · rcases List.mem_append.1 h with h | h
      · exact .inl h
      · simp at h
        subst h
        right
        simp at hp
        show d ≤ _
        omega
    · exact .inr h
theorem walkK_dep (m : Nat) : ∀ (ts : List Tree) (l : List (Tree × Nat)) (d : Nat), d ≤ l.length + 1 → ∀ x ∈ walkK m ts l d, x ∈ l ∨ x.2 ≤ (walkK m ts l d).length
  | [], l, d, _, x, hx => .inl hx
  | t :: ts, l, d, hd, x, hx => by
    simp only [walkK] at hx ⊢
    have hp := (walkK_pre m ts (walkT m t l d) d).length_le
    have hp2 := (walkT_pre m t l d).length_le
    rcases walkK_dep m ts _ d (by omega) x hx with h | h
    · rcases walkT_dep m t l d hd x h with h | h
      · exact .inl h
      · exact .inr (by omega)
    · exact .inr h
end
/-- A walk that was not cut: the tree is not deep. -/
theorem walk_within {m : Nat} {t : Tree} (hm : m ≤ 1000000) (h : (walkT m t [] 1).length < m) : within m t := by
  have hd : ∀ x ∈ walkT m t [] 1, x.2 ≤ m := fun x hx => by
    rcases walkT_dep m t [] 1 (by simp) x hx with h | h
    · cases h
    · omega
  exact within_mono (by omega) (walkT_within m m (by omega) t [] 1 h hd).2
def Tree.id : Tree → Int
  | .node i _ _ _ => i
mutual
def idsT : Tree → List Int
  | .node i _ _ ks => i :: idsK ks
def idsK : List Tree → List Int
  | [] => []
  | t :: ts => idsT t ++ idsK ts
end
mutual
theorem preT_ids : ∀ (t : Tree) (d : Nat), (preT t d).map (·.1.id) = idsT t
  | .node i k s ks, d => by simp only [preT, idsT, List.map_cons, preK_ids ks (d + 1)]; rfl
theorem preK_ids : ∀ (ts : List Tree) (d : Nat), (preK ts d).map (·.1.id) = idsK ts
  | [], _ => rfl
  | t :: ts, d => by simp only [preK, idsK, List.map_append, preT_ids t d, preK_ids ts d]
end
end Go.Proofs.Ytaieiigfheabfaa

/-! Representations that are not reckoned out. -/
namespace Go.Proofs.Ytaieiigfheabfaa
open Go.Proofs.Ytaieiigfheabfaa.Tw
/-- Values of a kind, and rows of them. -/
structure Emb (α : Type) where
  v : α → AV
  l : List α → List AV
  ok : ∀ xs, l xs = xs.map v
  pur : ∀ x, (v x).pur = true
namespace Emb
variable {α : Type} (E : Emb α)
theorem len (xs : List α) : (E.l xs).length = xs.length := by rw [E.ok]; simp
theorem get {xs : List α} {k : Nat} {x : α} (h : xs[k]? = some x) : (E.l xs)[k]? = some (E.v x) := by rw [E.ok]; simp [h]
theorem purL (xs : List α) : Tw.purL (E.l xs) = true := purL_of (by
  rw [E.ok]
  intro a ha
  obtain ⟨x, _, rfl⟩ := List.mem_map.1 ha
  exact E.pur x)
theorem Pur (xs : List α) : Tw.Pur (E.l xs) := ⟨E.purL xs⟩
theorem nil : E.l [] = [] := by rw [E.ok]; rfl
theorem app (xs ys : List α) : E.l (xs ++ ys) = E.l xs ++ E.l ys := by simp only [E.ok, List.map_append]
theorem cons (x : α) (ys : List α) : E.l (x :: ys) = E.v x :: E.l ys := by simp only [E.ok, List.map_cons]
theorem take (xs : List α) (n : Nat) : (E.l xs).take n = E.l (xs.take n) := by simp only [E.ok, List.map_take]
theorem drop (xs : List α) (n : Nat) : (E.l xs).drop n = E.l (xs.drop n) := by simp only [E.ok, List.map_drop]
theorem cut {xs : List α} {n : Nat} (h : n = xs.length) : Tw.Cut (E.l xs) 0 n (E.l xs) := ⟨by rw [List.drop_zero, E.take, h, List.take_length], by rw [E.len, h]; omega⟩
theorem cut' {xs ys : List α} {n : Nat} (h : n ≤ xs.length) (hy : xs.take n = ys) : Tw.Cut (E.l xs) 0 n (E.l ys) := ⟨by rw [List.drop_zero, E.take, hy], by rw [E.len]; omega⟩
end Emb
/-- The kinds of this program. -/
structure Em where
  int : Emb Int
  tree : Emb Tree
  spot : Emb (Tree × Nat)
  ok_int : int.v = fun i => .int .i64 i
  ok_tree : tree.v = Tree.av
  ok_spot : spot.v = Ytaieiigfheabfaa.spot
def em0 : Em where
  int := ⟨_, _, fun _ => rfl, fun _ => rfl⟩
  tree := ⟨Tree.av, _, fun _ => rfl, Tree.av_pur⟩
  spot := ⟨spot, _, fun _ => rfl, spot_pur⟩
  ok_int := rfl
  ok_tree := rfl
  ok_spot := rfl
namespace Em
variable (E : Em)
theorem ints (l : List Int) : ints l = E.int.l l := by rw [E.int.ok, E.ok_int]; rfl
theorem trees (l : List Tree) : avs l = E.tree.l l := by rw [E.tree.ok, E.ok_tree, avs_map]
theorem av (t : Tree) : t.av = E.tree.v t := by rw [E.ok_tree]
theorem spots (l : List (Tree × Nat)) : spots l = E.spot.l l := by rw [E.spot.ok, E.ok_spot]; rfl
theorem iv (i : Int) : E.int.v i = .int .i64 i := by rw [E.ok_int]
theorem node (i k : Int) (s : ByteArray) (ks : List Tree) : E.tree.v (.node i k s ks) = .agg [.int .i64 i, .int .i64 k, .str s, .sl 4 (E.tree.l ks)] := by rw [← E.av, Tree.av, E.trees]
theorem spotv (i k : Int) (s : ByteArray) (ks : List Tree) (d : Nat) : E.spot.v (.node i k s ks, d) = .agg [.int .i64 i, .int .i64 k, .str s, .sl 4 (E.tree.l ks), .int .i64 d] := by
  rw [E.ok_spot]
  simp only [Ytaieiigfheabfaa.spot, E.trees]
theorem geti {l : List Int} {k : Nat} {x : Int} (h : l[k]? = some x) : (E.int.l l)[k]? = some (.int .i64 x) := by rw [E.int.get h, E.iv]
theorem getn {l : List Tree} {j : Nat} {i k : Int} {s : ByteArray} {ks : List Tree} (h : l[j]? = some (.node i k s ks)) : (E.tree.l l)[j]? = some (.agg [.int .i64 i, .int .i64 k, .str s, .sl 4 (E.tree.l ks)]) := by rw [E.tree.get h, E.node]
theorem gets {l : List (Tree × Nat)} {j d : Nat} {i k : Int} {s : ByteArray} {ks : List Tree} (h : l[j]? = some (.node i k s ks, d)) : (E.spot.l l)[j]? = some (.agg [.int .i64 i, .int .i64 k, .str s, .sl 4 (E.tree.l ks), .int .i64 d]) := by rw [E.spot.get h, E.spotv]
end Em
end Go.Proofs.Ytaieiigfheabfaa

/-! tree.Walk for whatever takes the nodes. -/
namespace Go.Proofs.Ytaieiigfheabfaa
open Go.Proofs.Ytaieiigfheabfaa.Tw
section
variable {σ : Type} (f : σ → Tree → Nat → σ × Bool)
mutual
def runT : Tree → Nat → σ → σ × Bool
  | .node i k s ks, d, x => match f x (.node i k s ks) d with
    | (x1, true) => runK ks (d + 1) x1
    | (x1, false) => (x1, false)
def runK : List Tree → Nat → σ → σ × Bool
  | [], _, x => (x, true)
  | t :: ts, d, x => match runT t d x with
    | (x1, true) => runK ts d x1
    | (x1, false) => (x1, false)
end
end
theorem runK_drop {σ : Type} (f : σ → Tree → Nat → σ × Bool) {ts : List Tree} {j : Nat} {t : Tree} (h : ts[j]? = some t) (d : Nat) (x : σ) : runK f (ts.drop j) d x = runK f (t :: ts.drop (j + 1)) d x := by
  rw [List.drop_eq_getElem?_toList_append, h]
  rfl
mutual
theorem runT_inv {σ : Type} {f : σ → Tree → Nat → σ × Bool} {Iv : σ → Prop} (hi : ∀ s t d, Iv s → (f s t d).2 = true → Iv (f s t d).1) : ∀ (t : Tree) (d : Nat) (x : σ), Iv x → (runT f t d x).2 = true → Iv (runT f t d x).1
  | .node i k s ks, d, x, hx, h => by
    rw [runT] at h ⊢
    have h1 := hi x (.node i k s ks) d hx
    generalize f x (.node i k s ks) d = r at h h1
    obtain ⟨x1, b⟩ := r
    cases b with
    | true => exact runK_inv hi ks (d + 1) x1 (h1 rfl) h
    | false => cases h
theorem runK_inv {σ : Type} {f : σ → Tree → Nat → σ × Bool} {Iv : σ → Prop} (hi : ∀ s t d, Iv s → (f s t d).2 = true → Iv (f s t d).1) : ∀ (ts : List Tree) (d : Nat) (x : σ), Iv x → (runK f ts d x).2 = true → Iv (runK f ts d x).1
  | [], d, x, hx, h => hx
  | t :: ts, d, x, hx, h => by
    rw [runK] at h ⊢
    have h1 := runT_inv hi t d x hx
    generalize runT f t d x = r at h h1
    obtain ⟨x1, b⟩ := r
    cases b with
    | true => exact runK_inv hi ts d x1 (h1 rfl) h
    | false => cases h
end
theorem EW.vsK9 {A : Ar} {T : TyOps} {P : Program} {r : Option Nat} {K : Nat} {c : Code} {Q : AEx → AFr → Store → Prop} {fr fr' : AFr} {L L' : Store} (h : VS K fr L fr' L') (k : EW A T P r K c Q fr' L') : EW A T P r K c Q fr L := ⟨fun hT => Tw.vs h (k.h hT)⟩
/-- The objects that tree.Walk's closure goes with: who takes the nodes, the two boxes. -/
structure WalkX (P : Program) (E : Em) (σ : Type) (X : σ → Store) (n p py pf : Nat) (f : σ → Tree → Nat → σ × Bool) (Iv : σ → Prop) : Prop where
  len : ∀ s, (X s).length = n
  up : ∀ s, (X s).all (oUpto n) = true
  ly : py < n
  lf : pf < n
  gy : ∀ s, (X s)[py]? = some (some (.box 1 (.yield p)))
  gf : ∀ s, (X s)[pf]? = some (some (.box 1 (.func (.func 84) [] [.ref py 1 0 0, .ref pf 1 0 0])))
  inv : ∀ s t d, Iv s → (f s t d).2 = true → Iv (f s t d).1
  ys : ∀ m s t (d : Nat), Iv s → within m t → d ≤ 1000000 → YS P (X s) p [.int .i64 (d : Int), E.tree.v t] (f s t d).2 (X (f s t d).1)
set_option maxHeartbeats 4000000 in
theorem down84 (A : Ar) (E : Em) {P : Program} (hP : P = Try.prog) (σ : Type) (X : σ → Store) (n p py pf : Nat) (f : σ → Tree → Nat → σ × Bool) (Iv : σ → Prop) (hX : WalkX P E σ X n p py pf f Iv) : ∀ (m : Nat) (t : Tree), within m t → ∀ (s : σ) (d : Nat), Iv s → d + m ≤ 1000000 →
    TC P 84 [.int .i64 (d : Int), E.tree.v t, .ref py 1 0 0, .ref pf 1 0 0] (X s) (fun x L' => x = .ret (.bool (runT f t d s).2) ∧ L' = X (runT f t d s).1) := by
  intro m
  induction m with
  | zero => exact fun _ h => h.elim
  | succ m ih =>
  intro t hw s d hI hd
  have hys := hX.ys (m + 1) s t d hI hw (by omega)
  have hinv := hX.inv s t d hI
  obtain ⟨i, k, sx, ks⟩ := t
  have hll := E.tree.len ks
  have hwl := hw.len'
  have hlk : A.len (E.tree.l ks) = (ks.length : Int) := by rw [A.ok_len, hll]
  rw [E.node] at hys ⊢
  obtain ⟨r, hr⟩ : ∃ r, r = runT f (.node i k sx ks) d s := ⟨_, rfl⟩
  rw [← hr]
  rw [runT] at hr
  obtain ⟨g, hg⟩ : ∃ g, g = f s (.node i k sx ks) d := ⟨_, rfl⟩
  rw [← hg] at hr hys hinv
  obtain ⟨s1, b1⟩ := g
  dsimp only at hr hys hinv
  obtain ⟨R, hR⟩ : ∃ R : AEnd → Store → Prop, R = fun x L' => x = .ret (.bool r.2) ∧ L' = X r.1 := ⟨_, rfl⟩
  rw [← hR]
  obtain ⟨L0, hL0⟩ : ∃ M, M = X s := ⟨_, rfl⟩
  obtain ⟨L1, hL1⟩ : ∃ M, M = X s1 := ⟨_, rfl⟩
  rw [← hL0, ← hL1] at hys
  rw [← hL0]
  have hl0 : L0.length = n := by rw [hL0, hX.len]
  refine TC.of_ewp A T0 (T0_ok hP) (hP ▸ Try.func84) rfl _ rfl (by simp) ?_
  rw [hl0]
  cbv
  refine byes (bleM _ _ (Nat.le_of_eq (hl0.symm.trans (List.length.eq_def L0)))) ?_
  simp only [← List.length.eq_def, ← List.append.eq_def]
  refine EW.vsK9 (VS.pick rfl (l := [(5, .ref L0.length 4 0 0), (6, .bool false), (0, .int .i64 d), (2, .ref py 1 0 0), (3, .ref pf 1 0 0)]) (.cons (Sub.refl _) (.cons (Sub.refl _) (.cons (Sub.refl _) (.cons (Sub.refl _) (.cons (Sub.refl _) .nil)))))) ?_
  refine EW.frz (Nat.le_of_eq hl0.symm) rfl (by simp [AV.upto, uptoL, uptoL_pur _ _ (E.tree.purL _)]) (by simp [AV.upto, hl0, hX.ly, hX.lf]) (by rw [hl0, hL0]; exact hX.up s) ?_
  with_reducible refine EW.of ?_
  cbv
  (simp only [← List.get?Internal.eq_def]; rw [show L0.get?Internal py = _ from (hL0 ▸ hX.gy s)]; cbv)
  refine byes (bleM _ _ (Nat.le_of_eq (hl0.symm.trans (List.length.eq_def L0)))) ?_
  obtain ⟨n', l', ps', ac', bd', hg0, hsz, hyw⟩ := hys.get
  rw [← List.get?Internal.eq_def, show L0.get?Internal p = _ from hg0]
  refine chk_iff.2 ⟨hsz, hyw (T0_ok hP) ?_⟩
  cases b1 with
  | false =>
    have hres : R (.ret (.bool false)) L1 := by rw [hR, hr]; exact ⟨rfl, hL1⟩
    cbv
    ((try cbv) <;> (repeat ((with_reducible refine EW.of ?_); cbv)))
    exact ⟨_, L1, VSV.refl _ _ _, hres⟩
  | true =>
  replace hr : r = runK f ks (d + 1) s1 := hr
  have hI1 := hinv rfl
  cbv
  ((try cbv) <;> (repeat ((with_reducible refine EW.of ?_); cbv)))
  obtain ⟨JJ, hJ⟩ : ∃ J : Nat → AFr → Store → Prop, J = fun c fr L' => ∃ (j : Nat) (y : σ), c = ks.length - j ∧ j ≤ ks.length ∧ Iv y ∧ r = runK f (ks.drop j) (d + 1) y ∧ fr = ⟨28, [(17, .int .i64 j), (16, .int .i64 (A.len (E.tree.l ks))), (15, .sl 4 (E.tree.l ks)), (5, .imm [.int .i64 i, .int .i64 k, .str sx, .sl 4 (E.tree.l ks)]), (6, .bool false), (0, .int .i64 d), (2, .ref py 1 0 0), (3, .ref pf 1 0 0)]⟩ ∧ L' = X y := ⟨_, rfl⟩
  refine TW.loopE A (T0_ok hP) JJ (n0 := ks.length) (fr0 := ⟨28, [(17, .int .i64 0), (16, .int .i64 (A.len (E.tree.l ks))), (15, .sl 4 (E.tree.l ks)), (5, .imm [.int .i64 i, .int .i64 k, .str sx, .sl 4 (E.tree.l ks)]), (6, .bool false), (0, .int .i64 d), (2, .ref py 1 0 0), (3, .ref pf 1 0 0)]⟩) (L0 := L1)
    (VS.pick rfl (.cons (Sub.refl _) (.cons (Sub.refl _) (.cons (Sub.refl _) (.cons (Sub.refl _) (.cons (Sub.refl _) (.cons (Sub.refl _) (.cons (Sub.refl _) (.cons (Sub.refl _) .nil))))))))) (by rw [hJ]; exact ⟨0, s1, rfl, Nat.zero_le _, hI1, hr, rfl, hL1⟩) ?_
  intro c fr L3 hj
  rw [hJ] at hj
  obtain ⟨j, y, hc, hj, hIy, hinvr, rfl, hL3⟩ := hj
  cbv
  ((try cbv) <;> (repeat ((with_reducible refine EW.of ?_); cbv)))
  refine bsplit (fun h => ?_) (fun h => ?_)
  · have h : j < ks.length := lt_nt h rfl hlk
    obtain ⟨t', ht'⟩ : ∃ t', ks[j]? = some t' := ⟨_, List.getElem?_eq_getElem h⟩
    have hgt := E.tree.get ht'
    have hcall := ih t' (hw.2 t' (List.mem_of_getElem? ht')) y (d + 1) hIy (by omega)
    rw [runK_drop f ht', runK] at hinvr
    have hI2 := runT_inv (f := f) hX.inv t' (d + 1) y hIy
    obtain ⟨g2, hg2⟩ : ∃ g, g = runT f t' (d + 1) y := ⟨_, rfl⟩
    rw [← hg2] at hcall hinvr hI2
    obtain ⟨s2, b2⟩ := g2
    dsimp only at hcall hinvr hI2
    obtain ⟨i', k', sx', ks'⟩ := t'
    rw [E.node] at hgt hcall
    rw [← hL3] at hcall
    have hl3 : L3.length = n := by rw [hL3, hX.len]
    have hj1 : A.op .add .i64 (j : Int) 1 = ((j + 1 : Nat) : Int) := inc_eq A (by omega)
    have hd1 : A.op .add .i64 (d : Int) 1 = ((d + 1 : Nat) : Int) := inc_eq A (by omega)
    ((try cbv) <;> (repeat ((with_reducible refine EW.of ?_); cbv)))
    refine ⟨j, _, rfl, hgt, ?_⟩
    cbv
    refine byes (bleM _ _ (Nat.le_of_eq (hl3.symm.trans (List.length.eq_def L3)))) ?_
    simp only [← List.length.eq_def, ← List.append.eq_def, ← List.get?Internal.eq_def]
    obtain ⟨L4, hL4⟩ : ∃ M : Store, M = L3 ++ [some (AO.box 4 (.agg [.int .i64 0, .int .i64 0, .str ⟨⟨[]⟩⟩, .nils]))] := ⟨_, rfl⟩
    have hg4 : L4[L3.length]? = some (some (.box 4 (.agg [.int .i64 0, .int .i64 0, .str ⟨⟨[]⟩⟩, .nils]))) := by rw [hL4]; simp
    rw [show L3.append [some (AO.box 4 (.agg [.int .i64 0, .int .i64 0, .str ⟨⟨[]⟩⟩, .nils]))] = L4 from hL4.symm]
    rw [show L4.get?Internal L3.length = _ from hg4]
    refine chk_iff.2 ⟨by rfl, ?_⟩
    generalize hL5 : List.set L4 L3.length _ = L5
    replace hL5 : L5 = L3 ++ [some (AO.box 4 (.agg [.int .i64 i', .int .i64 k', .str sx', .sl 4 (E.tree.l ks')]))] := by rw [← hL5, hL4, List.set_append_right (h := Nat.le_refl _)]; simp; rfl
    obtain ⟨q3, hq3⟩ : ∃ q, q = L3.length := ⟨_, rfl⟩
    rw [← hq3]
    cbv
    rw [hq3, hL5]
    refine EW.vsK9 (VS.pick rfl (l := [(8, .ref L3.length 4 0 0), (17, .int .i64 j), (16, .int .i64 (A.len (E.tree.l ks))), (15, .sl 4 (E.tree.l ks)), (5, .imm [.int .i64 i, .int .i64 k, .str sx, .sl 4 (E.tree.l ks)]), (6, .bool false), (0, .int .i64 d), (2, .ref py 1 0 0), (3, .ref pf 1 0 0)]) (.cons (Sub.refl _) (.cons (Sub.refl _) (.cons (Sub.refl _) (.cons (Sub.refl _) (.cons (Sub.refl _) (.cons (Sub.refl _) (.cons (Sub.refl _) (.cons (Sub.refl _) (.cons (Sub.refl _) .nil)))))))))) ?_
    refine EW.frz (Nat.le_of_eq hl3.symm) rfl (by simp [AV.upto, uptoL, uptoL_pur _ _ (E.tree.purL _)]) (by simp [AV.upto, uptoL, uptoL_pur _ _ (E.tree.purL _), hl3, hX.ly, hX.lf]) (by rw [hl3, hL3]; exact hX.up y) ?_
    with_reducible refine EW.of ?_
    cbv
    (simp only [← List.get?Internal.eq_def]; rw [show L3.get?Internal pf = _ from (hL3 ▸ hX.gf y)]; cbv)
    refine byes (bleM _ _ (Nat.le_of_eq (hl3.symm.trans (List.length.eq_def L3)))) ?_
    rw [← hd1] at hcall
    refine ⟨Ent.of (hP ▸ Try.func84) rfl, TC.mono hcall ?_⟩
    rintro e L6 ⟨rfl, hL6⟩
    cases b2 with
    | false =>
      have hres : R (.ret (.bool false)) L6 := by rw [hR, hinvr]; exact ⟨rfl, hL6⟩
      cbv
      ((try cbv) <;> (repeat ((with_reducible refine EW.of ?_); cbv)))
      exact ⟨_, L6, VSV.refl _ _ _, hres⟩
    | true =>
      have hI3 := hI2 rfl
      replace hinvr : r = runK f (ks.drop (j + 1)) (d + 1) s2 := hinvr
      cbv
      ((try cbv) <;> (repeat ((with_reducible refine EW.of ?_); cbv)))
      refine ⟨ks.length - (j + 1), ⟨28, [(17, .int .i64 ((j + 1 : Nat) : Int)), (16, .int .i64 (A.len (E.tree.l ks))), (15, .sl 4 (E.tree.l ks)), (5, .imm [.int .i64 i, .int .i64 k, .str sx, .sl 4 (E.tree.l ks)]), (6, .bool false), (0, .int .i64 d), (2, .ref py 1 0 0), (3, .ref pf 1 0 0)]⟩, L6, by omega, VS.pick rfl (.cons (Sub.inc A (by omega)) (.cons (Sub.refl _) (.cons (Sub.refl _) (.cons (Sub.refl _) (.cons (Sub.refl _) (.cons (Sub.refl _) (.cons (Sub.refl _) (.cons (Sub.refl _) .nil)))))))), ?_⟩
      rw [hJ]
      exact ⟨j + 1, s2, rfl, h, hI3, hinvr, rfl, hL6⟩
  · have h : ks.length ≤ j := lt_nf h rfl hlk
    rw [List.drop_eq_nil_of_le h, runK] at hinvr
    have hres : R (.ret (.bool true)) L3 := by rw [hR, hinvr]; exact ⟨rfl, hL3⟩
    ((try cbv) <;> (repeat ((with_reducible refine EW.of ?_); cbv)))
    exact ⟨_, L3, VSV.refl _ _ _, hres⟩
end Go.Proofs.Ytaieiigfheabfaa

/-! Trees in new memory; two trees compared. -/
namespace Go.Proofs.Ytaieiigfheabfaa
open Go.Proofs.Ytaieiigfheabfaa.Tw
/-- The objects while kids are put together: none yet, or a row of so many. -/
def stK (E : Em) (L : Store) : Option (Nat × List Tree) → Store
  | none => L
  | some (_, done) => L ++ [some (.arr 4 (E.tree.l done))]
def rowK (p : Nat) : Option (Nat × List Tree) → AV
  | none => .nils
  | some (n, _) => .row p 4 0 n
def invK (ts : List Tree) : Option (Nat × List Tree) → Prop
  | none => ts = []
  | some (m, done) => m = done.length ∧ done = ts
theorem copy63 (A : Ar) (E : Em) {P : Program} (hP : P = Try.prog) : ∀ (n : Nat) (t : Tree), within n t → TPure P 63 [E.tree.v t] (E.tree.v t) := by
  intro n
  induction n with
  | zero => exact fun _ h => h.elim
  | succ n ih =>
  intro t hw
  refine TPure.ofE A T0 (T0_ok hP) (hP ▸ Try.func63) rfl _ rfl (by simp) ?_
  obtain ⟨i, k, s, ks⟩ := t
  have hll := E.tree.len ks
  have hwl := hw.len'
  simp only [E.node]
  cbv
  ((try cbv) <;> (repeat ((with_reducible refine EW.of ?_); cbv)))
  obtain ⟨z, hz⟩ : ∃ z : Store, z = [some (.box 4 (.agg [.int .i64 i, .int .i64 k, .str s, .sl 4 (E.tree.l ks)])), some (.box 4 (.agg [.int .i64 0, .int .i64 0, .str ⟨⟨[]⟩⟩, .nils]))] := ⟨_, rfl⟩
  obtain ⟨S, hS⟩ : ∃ S : LI (Nat × Option (Nat × List Tree)), S = ⟨fun x => [(9, .int .i64 x.1), (8, .int .i64 (A.len (E.tree.l ks))), (7, .sl 4 (E.tree.l ks)), (3, rowK 2 x.2), (2, .ref 1 4 0 0), (1, .ref 0 4 0 0)], fun x => stK E z x.2, fun x => x.1 ≤ ks.length ∧ invK (ks.take x.1) x.2, fun x => ks.length - x.1⟩ := ⟨_, rfl⟩
  refine TW.loopM A (T0_ok hP) S 22 rfl (0, none) ?_ ?_ ?_
  · rw [hS]; exact ⟨Nat.zero_le _, rfl⟩
  · rw [hS, hz]; cbv; (repeat (first | exact trivial | refine And.intro (Emb.Pur _ _) ?_ | refine And.intro rfl ?_ | refine And.intro (Pur.mk rfl) ?_ | refine And.intro (Pur.mk (by assumption)) ?_))
  rintro ⟨j, o⟩ hj l1 L1 e1 e2
  rw [hS] at hj e1 e2
  obtain ⟨hj, ho⟩ := hj
  dsimp only at hj ho e1 e2
  subst e1
  cases o with
  | none =>
    dsimp only [stK, rowK, invK] at e2 ho ⊢
    rw [hz] at e2
    subst e2
    cbv
    ((try cbv) <;> (repeat ((with_reducible refine EW.of ?_); cbv)))
    refine bsplit (fun h => ?_) (fun h => ?_)
    · have h : j < (E.tree.l ks).length := lt_nt h rfl (A.ok_len _)
      obtain ⟨t', ht'⟩ : ∃ t', ks[j]? = some t' := ⟨_, List.getElem?_eq_getElem (by omega)⟩
      have hwt := hw.2 t' (List.mem_of_getElem? ht')
      have hrec := ih t' hwt
      have htk : ks.take (j + 1) = ks.take j ++ [t'] := by rw [List.take_add_one, ht']; rfl
      have hlk : (ks.take j).length = j := by simp; omega
      obtain ⟨i', k', s', ks'⟩ := t'
      simp only [E.node] at hrec
      ((try cbv) <;> (repeat ((with_reducible refine EW.of ?_); cbv)))
      refine ⟨j, _, rfl, E.getn ht', ?_⟩
      cbv
      ((try cbv) <;> (repeat ((with_reducible refine EW.of ?_); cbv)))
      (refine ⟨Ent.of (hP ▸ Try.func63) rfl, ?_⟩; refine TC.pureE hrec ?_; cbv; (repeat (first | exact trivial | refine And.intro (Emb.Pur _ _) ?_ | refine And.intro rfl ?_ | refine And.intro (Pur.mk rfl) ?_ | refine And.intro (Pur.mk (by assumption)) ?_)); ((try cbv) <;> (repeat ((with_reducible refine EW.of ?_); cbv))))
      obtain ⟨q, hq⟩ : ∃ q, q = j + 1 := ⟨_, rfl⟩
      obtain ⟨done1, hd1⟩ : ∃ l, l = ks.take (j + 1) := ⟨_, rfl⟩
      have hj0 : j = 0 := by rw [← hlk, ho]; rfl
      refine ⟨⟨rfl⟩, q, E.tree.l done1, by rw [hq, hj0]; rfl, by rw [hd1, htk, ho, E.tree.app, E.tree.cons, E.node, E.tree.nil]; rfl, Nat.zero_le _, by omega, by omega, ?_⟩
      cbv
      ((try cbv) <;> (repeat ((with_reducible refine EW.of ?_); cbv)))
      refine LM.of (j + 1, some (q, done1)) rfl ?_ ?_ ?_
      · rw [hS]; exact ⟨by show j + 1 ≤ _; omega, by rw [hd1, hq]; simp; omega, hd1⟩
      · rw [hS]; show ks.length - (j + 1) < ks.length - j; omega
      · rw [hS, hz]; (cbv; (repeat (first | exact trivial | refine And.intro (Emb.Pur _ _) ?_ | refine And.intro rfl ?_ | refine And.intro (Pur.mk rfl) ?_ | refine And.intro (Pur.mk (by assumption)) ?_)); refine And.intro (inc_eq A (by omega)) ?_; (repeat (first | exact trivial | refine And.intro (Emb.Pur _ _) ?_ | refine And.intro rfl ?_ | refine And.intro (Pur.mk rfl) ?_ | refine And.intro (Pur.mk (by assumption)) ?_)))
    · have h : (E.tree.l ks).length ≤ j := lt_nf h rfl (A.ok_len _)
      have hks : ks.take j = ks := List.take_of_length_le (by omega)
      rw [hks] at ho
      ((try cbv) <;> (repeat ((with_reducible refine EW.of ?_); cbv)))
      subst ho
      exact ⟨E.tree.nil.symm, trivial⟩
  | some x =>
    obtain ⟨m, done⟩ := x
    dsimp only [stK, rowK, invK] at e2 ho ⊢
    obtain ⟨hm, ho⟩ := ho
    rw [hz] at e2
    subst e2
    cbv
    ((try cbv) <;> (repeat ((with_reducible refine EW.of ?_); cbv)))
    refine bsplit (fun h => ?_) (fun h => ?_)
    · have h : j < (E.tree.l ks).length := lt_nt h rfl (A.ok_len _)
      obtain ⟨t', ht'⟩ : ∃ t', ks[j]? = some t' := ⟨_, List.getElem?_eq_getElem (by omega)⟩
      have hwt := hw.2 t' (List.mem_of_getElem? ht')
      have hrec := ih t' hwt
      have htk : ks.take (j + 1) = ks.take j ++ [t'] := by rw [List.take_add_one, ht']; rfl
      have hlk : (ks.take j).length = j := by simp; omega
      obtain ⟨i', k', s', ks'⟩ := t'
      simp only [E.node] at hrec
      ((try cbv) <;> (repeat ((with_reducible refine EW.of ?_); cbv)))
      refine ⟨j, _, rfl, E.getn ht', ?_⟩
      cbv
      ((try cbv) <;> (repeat ((with_reducible refine EW.of ?_); cbv)))
      (refine ⟨Ent.of (hP ▸ Try.func63) rfl, ?_⟩; refine TC.pureE hrec ?_; cbv; (repeat (first | exact trivial | refine And.intro (Emb.Pur _ _) ?_ | refine And.intro rfl ?_ | refine And.intro (Pur.mk rfl) ?_ | refine And.intro (Pur.mk (by assumption)) ?_)); ((try cbv) <;> (repeat ((with_reducible refine EW.of ?_); cbv))))
      obtain ⟨q, hq⟩ : ∃ q, q = j + 1 := ⟨_, rfl⟩
      obtain ⟨done1, hd1⟩ : ∃ l, l = ks.take (j + 1) := ⟨_, rfl⟩
      have hdl := E.tree.len done
      have hmj : m = j := by rw [hm, ho, hlk]
      refine ⟨⟨rfl⟩, q, E.tree.l done1, by rw [hq, hmj]; rfl, by rw [hd1, htk, ← ho, E.tree.app, E.tree.cons, E.node, E.tree.nil, List.take_of_length_le (show (E.tree.l done).length ≤ m by omega)], (show m ≤ (E.tree.l done).length by omega), by omega, by omega, ?_⟩
      cbv
      ((try cbv) <;> (repeat ((with_reducible refine EW.of ?_); cbv)))
      refine LM.of (j + 1, some (q, done1)) rfl ?_ ?_ ?_
      · rw [hS]; exact ⟨by show j + 1 ≤ _; omega, by rw [hd1, hq]; simp; omega, hd1⟩
      · rw [hS]; show ks.length - (j + 1) < ks.length - j; omega
      · rw [hS, hz]; (cbv; (repeat (first | exact trivial | refine And.intro (Emb.Pur _ _) ?_ | refine And.intro rfl ?_ | refine And.intro (Pur.mk rfl) ?_ | refine And.intro (Pur.mk (by assumption)) ?_)); refine And.intro (inc_eq A (by omega)) ?_; (repeat (first | exact trivial | refine And.intro (Emb.Pur _ _) ?_ | refine And.intro rfl ?_ | refine And.intro (Pur.mk rfl) ?_ | refine And.intro (Pur.mk (by assumption)) ?_)))
    · have h : (E.tree.l ks).length ≤ j := lt_nf h rfl (A.ok_len _)
      have hks : ks.take j = ks := List.take_of_length_le (by omega)
      rw [hks] at ho
      ((try cbv) <;> (repeat ((with_reducible refine EW.of ?_); cbv)))
      subst ho
      exact ⟨E.tree.cut hm, E.tree.Pur _, trivial⟩
end Go.Proofs.Ytaieiigfheabfaa

/-! tree.Walk and its closure. -/
namespace Go.Proofs.Ytaieiigfheabfaa
open Go.Proofs.Ytaieiigfheabfaa.Tw
def nodeC (E : Em) : Tree → List AV
  | .node i k s ks => [.int .i64 i, .int .i64 k, .str s, .sl 4 (E.tree.l ks)]
theorem nodeC_pur (E : Em) (t : Tree) : purL (nodeC E t) = true := by
  obtain ⟨i, k, s, ks⟩ := t
  simp [nodeC, purL, AV.pur, E.tree.purL]
/-- Who takes tree.Walk's nodes. -/
structure ConT (P : Program) (E : Em) where
  σ : Type
  st : σ → Store
  K : Nat
  p : Nat
  f : σ → Tree → Nat → σ × Bool
  Iv : σ → Prop
  len : ∀ s, (st s).length = K
  up : ∀ s, (st s).all (oUpto K) = true
  lt : p < K
  inv : ∀ s t d, Iv s → (f s t d).2 = true → Iv (f s t d).1
  ys : ∀ m s t (d : Nat), Iv s → within m t → d ≤ 1000000 → YS P (st s) p [.int .i64 (d : Int), E.tree.v t] (f s t d).2 (st (f s t d).1)
def ConT.X {P : Program} {E : Em} (C : ConT P E) (s : C.σ) : Store := C.st s ++ [some (.box 1 (.yield C.p)), some (.box 1 (.func (.func 84) [] [.ref C.K 1 0 0, .ref (C.K + 1) 1 0 0]))]
theorem ConT.walkX {P : Program} {E : Em} (C : ConT P E) : WalkX P E C.σ C.X (C.K + 2) C.p C.K (C.K + 1) C.f C.Iv where
  len := fun s => by simp [ConT.X, C.len]
  up := fun s => by
    rw [ConT.X, List.all_append, Bool.and_eq_true]
    have := C.lt
    refine ⟨List.all_eq_true.2 fun o ho => oUpto_le (by omega) (List.all_eq_true.1 (C.up s) o ho), ?_⟩
    simp [oUpto, AO.upto, AV.upto, uptoL]
    omega
  ly := by omega
  lf := by omega
  gy := fun s => by rw [ConT.X, ← C.len s]; simp
  gf := fun s => by rw [ConT.X, ← C.len s]; simp
  inv := C.inv
  ys := fun m s t d hI hw hd => ⟨fun M => by
    have := (C.ys m s t d hI hw hd).h ([some (.box 1 (.yield C.p)), some (.box 1 (.func (.func 84) [] [.ref C.K 1 0 0, .ref (C.K + 1) 1 0 0]))] ++ M)
    rw [← List.append_assoc, ← List.append_assoc] at this
    exact this⟩
theorem Walk74 (A : Ar) (E : Em) {P : Program} (hP : P = Try.prog) (t : Tree) : TPure P 74 [E.tree.v t] (.func (.func 83) [] [.imm (nodeC E t)]) := by
  have hc := nodeC_pur E t
  obtain ⟨i, k, s, ks⟩ := t
  rw [E.node]
  unfold nodeC at hc ⊢
  have hc2 : Tw.Pur [.int .i64 i, .int .i64 k, .str s, .sl 4 (E.tree.l ks)] := ⟨hc⟩
  refine TPure.ofE A T0 (T0_ok hP) (hP ▸ Try.func74) rfl _ rfl (by simp) ?_
  cbv
  ((try cbv) <;> (repeat ((with_reducible refine EW.of ?_); cbv)))
  exact ⟨hc2, trivial⟩
set_option maxHeartbeats 4000000 in
theorem Walk83 (A : Ar) (E : Em) {P : Program} (hP : P = Try.prog) (m : Nat) (hm : m ≤ 999999) (t : Tree) (hw : within m t) (C : ConT P E) (x : C.σ) (hI : C.Iv x) :
    TC P 83 [.yield C.p, .imm (nodeC E t)] (C.st x) (fun e L' => e = .ret (.tup []) ∧ L' = C.st (runT C.f t 1 x).1) := by
  have hdown := down84 A E hP C.σ C.X (C.K + 2) C.p C.K (C.K + 1) C.f C.Iv C.walkX m t hw x 1 hI (by omega)
  have hcopy := copy63 A E hP m t hw
  obtain ⟨r, hr⟩ : ∃ r, r = runT C.f t 1 x := ⟨_, rfl⟩
  rw [← hr] at hdown ⊢
  obtain ⟨i, k, s, ks⟩ := t
  rw [E.node] at hdown hcopy
  unfold nodeC
  obtain ⟨L0, hL0⟩ : ∃ M, M = C.st x := ⟨_, rfl⟩
  have hl0 : L0.length = C.K := by rw [hL0, C.len]
  have hlt := C.lt
  obtain ⟨p, hp⟩ : ∃ p, p = C.p := ⟨_, rfl⟩
  rw [← hL0, ← hp]
  refine TC.of_ewp A T0 (T0_ok hP) (hP ▸ Try.func83) rfl _ rfl (by simp) ?_
  rw [hl0]
  obtain ⟨K, hK⟩ : ∃ K, K = C.K := ⟨_, rfl⟩
  rw [← hK] at hl0 hlt hdown ⊢
  obtain ⟨L1, hL1⟩ : ∃ M : Store, M = L0 ++ [some (AO.box 1 (.yield p))] := ⟨_, rfl⟩
  obtain ⟨K1, hK1⟩ : ∃ k, k = K + 1 := ⟨_, rfl⟩
  have hl1 : L1.length = K1 := by rw [hL1]; simp [hl0]; omega
  obtain ⟨L2, hL2⟩ : ∃ M : Store, M = L1 ++ [some (AO.box 1 .nilf)] := ⟨_, rfl⟩
  have hl2 : L2.length = K + 2 := by rw [hL2]; simp [hl1]; omega
  have hg2 : L2[K1]? = some (some (.box 1 .nilf)) := by rw [hL2, ← hl1]; simp
  cbv
  refine byes (bleM _ _ (Nat.le_of_eq (hl0.symm.trans (List.length.eq_def L0)))) ?_
  simp only [← List.length.eq_def, ← List.append.eq_def]
  rw [show L0.append [some (AO.box 1 (.yield p))] = L1 from hL1.symm, hl0]
  ((try cbv) <;> (repeat ((with_reducible refine EW.of ?_); cbv)))
  refine byes (bleM _ _ (Nat.le_trans (show K ≤ L1.length by omega) (Nat.le_of_eq (List.length.eq_def L1)))) ?_
  simp only [← List.length.eq_def, ← List.append.eq_def]
  rw [show L1.append [some (AO.box 1 .nilf)] = L2 from hL2.symm, hl1]
  ((try cbv) <;> (repeat ((with_reducible refine EW.of ?_); cbv)))
  simp only [← List.get?Internal.eq_def]
  rw [show L2.get?Internal K1 = _ from hg2]
  refine chk_iff.2 ⟨by rfl, ?_⟩
  generalize hL3 : List.set L2 K1 _ = L3
  replace hL3 : L3 = C.X x := by
    rw [← hL3, hL2, List.set_append_right (h := by omega), hl1, hL1, hL0, ConT.X]
    simp only [Nat.sub_self, List.set_cons_zero, List.append_assoc, List.cons_append, List.nil_append]
    rw [hp, ← hK, hK1]
    rfl
  have hX := C.walkX
  have hl3 : L3.length = K + 2 := by rw [hL3, hX.len, hK]
  have hg3 : L3[K1]? = some (some (.box 1 (.func (.func 84) [] [.ref K 1 0 0, .ref K1 1 0 0]))) := by rw [hL3, hK1, hK]; exact hX.gf x
  ((try cbv) <;> (repeat ((with_reducible refine EW.of ?_); cbv)))
  refine TW.drawT (A := A) (T0_ok hP) (hP ▸ follows_mixed) (by kernel_rfl) rfl (by kernel_rfl) rfl rfl (by rw [Nat.ble_eq]; omega) ?_
  cbv
  (simp only [← List.get?Internal.eq_def]; rw [show L3.get?Internal K1 = _ from hg3]; cbv)
  refine ⟨Ent.of (hP ▸ Try.func63) rfl, _, TC.pure hcopy (show purL [.agg [.int .i64 i, .int .i64 k, .str s, .sl 4 (E.tree.l ks)]] = true by simp [purL, AV.pur, E.tree.purL]) ⟨rfl, rfl⟩, ?_⟩
  rw [← hL3, ← hK1] at hdown
  obtain ⟨s2, b2⟩ := r
  dsimp only at hdown ⊢
  obtain ⟨L4, hL4⟩ : ∃ M, M = C.st s2 := ⟨_, rfl⟩
  have hl4 : L4.length = K := by rw [hL4, C.len, hK]
  have hu4 : L4.all (oUpto K) = true := by rw [hL4, hK]; exact C.up s2
  rw [← hL4]
  cbv
  simp only [← List.length.eq_def]
  refine byes (bleM _ _ (by omega)) ?_
  refine ⟨Ent.of (hP ▸ Try.func84) rfl, TC.mono hdown ?_⟩
  rintro e L5 ⟨rfl, hL5⟩
  have htk : L5.take K = L4 := by rw [hL5, ConT.X, ← hL4, ← hl4]; simp
  have hv : VSV K (.tup []) L5 (.tup []) L4 := htk ▸ VSV.trunc K (Nat.le_refl _) rfl (by rw [htk]; exact hu4)
  cbv
  exact ⟨_, _, hv, rfl, rfl⟩
end Go.Proofs.Ytaieiigfheabfaa

/-! Trees of ours: each row of kids is a row of ours, or there is none. -/
namespace Go.Proofs.Ytaieiigfheabfaa
open Go.Proofs.Ytaieiigfheabfaa.Tw
inductive DT where
  | node (i k : Int) (s : ByteArray) (o : Option Nat) (ks : List DT)
mutual
def DT.tree : DT → Tree
  | .node i k s _ ks => .node i k s (treesD ks)
def treesD : List DT → List Tree
  | [] => []
  | d :: ds => d.tree :: treesD ds
end
theorem treesD_map : ∀ ks : List DT, treesD ks = ks.map DT.tree
  | [] => rfl
  | d :: ds => by rw [treesD, treesD_map ds]; rfl
theorem treesD_len (ks : List DT) : (treesD ks).length = ks.length := by rw [treesD_map, List.length_map]
def kidAV (n : Nat) : Option Nat → AV
  | none => .sl 4 []
  | some p => .row p 4 0 n
def DT.cell : DT → AV
  | .node i k s o ks => .agg [.int .i64 i, .int .i64 k, .str s, kidAV ks.length o]
mutual
def DT.foot : DT → List Nat
  | .node _ _ _ o ks => o.toList ++ footD ks
def footD : List DT → List Nat
  | [] => []
  | d :: ds => d.foot ++ footD ds
end
/-- The row of kids. -/
def rowD (L : Store) (ks : List DT) : Option Nat → Prop
  | none => ks = []
  | some p => L[p]? = some (some (.arr 4 (ks.map DT.cell)))
mutual
def DT.ok (L : Store) : DT → Prop
  | .node _ _ _ o ks => rowD L ks o ∧ oksD L ks
def oksD (L : Store) : List DT → Prop
  | [] => True
  | d :: ds => d.ok L ∧ oksD L ds
end
theorem footD_app : ∀ ks ds : List DT, footD (ks ++ ds) = footD ks ++ footD ds
  | [], ds => rfl
  | d :: ks, ds => by simp only [List.cons_append, footD, footD_app ks ds, List.append_assoc]
theorem oksD_app {L : Store} : ∀ {ks ds : List DT}, oksD L (ks ++ ds) ↔ oksD L ks ∧ oksD L ds
  | [], ds => by simp [oksD]
  | d :: ks, ds => by simp only [List.cons_append, oksD, oksD_app (ks := ks) (ds := ds), and_assoc]
theorem treesD_app (ks ds : List DT) : treesD (ks ++ ds) = treesD ks ++ treesD ds := by simp only [treesD_map, List.map_append]
theorem foot_mem {x : Nat} {d : DT} : ∀ {ks : List DT}, d ∈ ks → x ∈ d.foot → x ∈ footD ks
  | e :: ks, h, hx => by
    rw [footD, List.mem_append]
    rcases List.mem_cons.1 h with rfl | h
    · exact .inl hx
    · exact .inr (foot_mem h hx)
theorem oks_mem {L : Store} {d : DT} : ∀ {ks : List DT}, d ∈ ks → oksD L ks → d.ok L
  | e :: ks, h, hx => by
    rcases List.mem_cons.1 h with rfl | h
    · exact hx.1
    · exact oks_mem h hx.2
theorem rowD.same {L L' : Store} {ks : List DT} {o : Option Nat} (h : ∀ p ∈ o.toList, L'[p]? = L[p]?) (hr : rowD L ks o) : rowD L' ks o := by
  cases o with
  | none => exact hr
  | some p => exact (h p (by simp)).trans hr
mutual
theorem DT.ok.same {L L' : Store} : ∀ {d : DT}, (∀ p ∈ d.foot, L'[p]? = L[p]?) → d.ok L → d.ok L'
  | .node i k s o ks, h, hd => ⟨rowD.same (fun p hp => h p (List.mem_append_left _ hp)) hd.1, oksD.same (fun p hp => h p (List.mem_append_right _ hp)) hd.2⟩
theorem oksD.same {L L' : Store} : ∀ {ks : List DT}, (∀ p ∈ footD ks, L'[p]? = L[p]?) → oksD L ks → oksD L' ks
  | [], _, _ => trivial
  | d :: ds, h, hd => ⟨DT.ok.same (fun p hp => h p (List.mem_append_left _ hp)) hd.1, oksD.same (fun p hp => h p (List.mem_append_right _ hp)) hd.2⟩
end
mutual
theorem DT.ok.lt {L : Store} : ∀ {d : DT}, d.ok L → ∀ p ∈ d.foot, p < L.length
  | .node i k s o ks, hd, p, hp => by
    rcases List.mem_append.1 hp with hp | hp
    · cases o with
      | none => simp at hp
      | some q =>
        obtain rfl : p = q := by simpa using hp
        exact (List.getElem?_eq_some_iff.1 hd.1).1
    · exact oksD.lt hd.2 p hp
theorem oksD.lt {L : Store} : ∀ {ks : List DT}, oksD L ks → ∀ p ∈ footD ks, p < L.length
  | [], _, p, hp => by simp [footD] at hp
  | d :: ds, hd, p, hp => by
    rcases List.mem_append.1 hp with hp | hp
    · exact DT.ok.lt hd.1 p hp
    · exact oksD.lt hd.2 p hp
end
mutual
/-- All rows of a tree of ours, to which a row of ours leads, are shut. -/
theorem DT.shut (E : Em) : ∀ (d : DT) (L : Store) (q : Nat) (es : List AV) (ix : Nat), d.ok L → (q :: d.foot).Nodup → L[q]? = some (some (.arr 4 es)) → es[ix]? = some d.cell → ∃ L' : Store, (∀ K fr, VS K fr L fr L') ∧ L'.length = L.length ∧ L'[q]? = some (some (.arr 4 (es.set ix (E.tree.v d.tree)))) ∧ ∀ x, x ∉ q :: d.foot → L'[x]? = L[x]?
  | .node i k s none ks, L, q, es, ix, hd, hn, hq, hx => by
    obtain rfl : ks = [] := hd.1
    refine ⟨L, fun K fr => VS.refl K fr L, rfl, ?_, fun _ _ => rfl⟩
    rw [hq, show E.tree.v (DT.node i k s none []).tree = (DT.node i k s none []).cell from by rw [DT.tree, treesD, E.node, E.tree.nil]; rfl]
    congr 3
    exact (List.ext_getElem? fun y => by
      by_cases hy : ix = y
      · subst hy; rw [List.getElem?_set_self (List.getElem?_eq_some_iff.1 hx).1, hx]
      · rw [List.getElem?_set_ne hy]).symm
  | .node i k s (some p) ks, L, q, es, ix, hd, hn, hq, hx => by
    have hn1 : (p :: footD ks).Nodup := (List.nodup_cons.1 hn).2
    have hqn : q ∉ p :: footD ks := (List.nodup_cons.1 hn).1
    have hqp : q ≠ p := fun e => hqn (e ▸ List.mem_cons_self ..)
    obtain ⟨L1, hv, hl, hp, hx1⟩ := shutK E ks L p [] hd.2 hn1 (by rw [E.tree.nil]; exact hd.1)
    rw [List.nil_append] at hp
    have hq1 := (hx1 q hqn).trans hq
    have hlq := (List.getElem?_eq_some_iff.1 hq1).1
    have hli := (List.getElem?_eq_some_iff.1 hx).1
    refine ⟨(L1.set q (some (.arr 4 (es.set ix (E.tree.v (.node i k s (treesD ks))))))).set p none, fun K fr => VS.trans (hv K fr) (VS.freezeIn hqp hp hq1 (by simp) fun y e e' he he' => ?_), by simp [hl], ?_, fun y hy => ?_⟩
    · by_cases hyx : ix = y
      · subst hyx
        rw [List.getElem?_set_self hli] at he'
        cases he'
        rw [hx] at he
        cases he
        rw [E.node]
        refine ⟨rfl, fun j c c' hc hc' => ?_⟩
        match j, hc, hc' with
        | 0, hc, hc' => cases hc; cases hc'; exact .sub (Sub.refl _)
        | 1, hc, hc' => cases hc; cases hc'; exact .sub (Sub.refl _)
        | 2, hc, hc' => cases hc; cases hc'; exact .sub (Sub.refl _)
        | 3, hc, hc' => cases hc; cases hc'; exact FSub.whole (by rw [E.tree.len, treesD_len])
        | j + 4, hc, hc' => simp [AV.cells, DT.cell] at hc
      · rw [List.getElem?_set_ne hyx] at he'
        rw [he] at he'
        cases he'
        exact FSubE.refl ..
    · rw [List.getElem?_set_ne (Ne.symm hqp), List.getElem?_set_self hlq]
      rfl
    · have hyq : y ≠ q := fun e => hy (e ▸ List.mem_cons_self ..)
      have hyf : y ∉ p :: footD ks := fun h => hy (List.mem_cons_of_mem _ h)
      rw [List.getElem?_set_ne (fun e : p = y => hyf (by rw [← e]; exact List.mem_cons_self ..)), List.getElem?_set_ne (Ne.symm hyq)]
      exact hx1 y hyf
theorem shutK (E : Em) : ∀ (ks : List DT) (L : Store) (p : Nat) (pre : List Tree), oksD L ks → (p :: footD ks).Nodup → L[p]? = some (some (.arr 4 (E.tree.l pre ++ ks.map DT.cell))) → ∃ L' : Store, (∀ K fr, VS K fr L fr L') ∧ L'.length = L.length ∧ L'[p]? = some (some (.arr 4 (E.tree.l (pre ++ treesD ks)))) ∧ ∀ x, x ∉ p :: footD ks → L'[x]? = L[x]?
  | [], L, p, pre, _, _, hp => ⟨L, fun K fr => VS.refl K fr L, rfl, by rw [hp, treesD, List.map_nil, List.append_nil, List.append_nil], fun _ _ => rfl⟩
  | d :: ds, L, p, pre, hd, hn, hp => by
    have hn0 := List.nodup_cons.1 hn
    have hn2 := List.nodup_append.1 hn0.2
    obtain ⟨L1, hv1, hl1, hp1, hx1⟩ := DT.shut E d L p _ pre.length hd.1 (List.nodup_cons.2 ⟨fun h => hn0.1 (List.mem_append_left _ h), hn2.1⟩) hp (by rw [List.getElem?_append_right (by rw [E.tree.len]; exact Nat.le_refl _), E.tree.len, Nat.sub_self]; rfl)
    have hds : oksD L1 ds := oksD.same (fun x hx => hx1 x fun h => by
      rcases List.mem_cons.1 h with rfl | h
      · exact hn0.1 (List.mem_append_right _ hx)
      · exact hn2.2.2 x h x hx rfl) hd.2
    obtain ⟨L2, hv2, hl2, hp2, hx2⟩ := shutK E ds L1 p (pre ++ [d.tree]) hds (List.nodup_cons.2 ⟨fun h => hn0.1 (List.mem_append_right _ h), hn2.2.1⟩) (by
      rw [hp1, List.set_append_right _ _ (by rw [E.tree.len]; exact Nat.le_refl _), E.tree.len, Nat.sub_self, E.tree.app, E.tree.cons, E.tree.nil, List.append_assoc]
      rfl)
    refine ⟨L2, fun K fr => VS.trans (hv1 K fr) (hv2 K fr), hl2.trans hl1, by rw [hp2, treesD, List.append_assoc]; rfl, fun x hx => ?_⟩
    have h1 : x ∉ p :: footD ds := fun h => hx (by
      rcases List.mem_cons.1 h with rfl | h
      · exact List.mem_cons_self ..
      · exact List.mem_cons_of_mem _ (List.mem_append_right _ h))
    have h2 : x ∉ p :: d.foot := fun h => hx (by
      rcases List.mem_cons.1 h with rfl | h
      · exact List.mem_cons_self ..
      · exact List.mem_cons_of_mem _ (List.mem_append_left _ h))
    exact (hx2 x h1).trans (hx1 x h2)
end
mutual
/-- A tree of ours at places that lie n further on. -/
def DT.sh (n : Nat) : DT → DT
  | .node i k s o ks => .node i k s (o.map (n + ·)) (shD n ks)
def shD (n : Nat) : List DT → List DT
  | [] => []
  | d :: ds => d.sh n :: shD n ds
end
theorem shD_map (n : Nat) : ∀ ks : List DT, shD n ks = ks.map (DT.sh n)
  | [] => rfl
  | d :: ds => by rw [shD, shD_map n ds]; rfl
mutual
theorem DT.sh_tree (n : Nat) : ∀ d : DT, (d.sh n).tree = d.tree
  | .node i k s o ks => by rw [DT.sh, DT.tree, DT.tree, shD_tree n ks]
theorem shD_tree (n : Nat) : ∀ ks : List DT, treesD (shD n ks) = treesD ks
  | [] => rfl
  | d :: ds => by rw [shD, treesD, treesD, DT.sh_tree n d, shD_tree n ds]
end
mutual
theorem DT.sh_foot (n : Nat) : ∀ d : DT, (d.sh n).foot = d.foot.map (n + ·)
  | .node i k s o ks => by
    rw [DT.sh, DT.foot, DT.foot, shD_foot n ks, List.map_append]
    cases o <;> rfl
theorem shD_foot (n : Nat) : ∀ ks : List DT, footD (shD n ks) = (footD ks).map (n + ·)
  | [] => rfl
  | d :: ds => by rw [shD, footD, footD, DT.sh_foot n d, shD_foot n ds, List.map_append]
end
theorem DT.sh_cell {n m : Nat} {π : List Nat} (hπ : ∀ q, q < m → π.getD q 0 = n + q) (d : DT) (h : ∀ p ∈ d.foot, p < m) : (d.sh n).cell = d.cell.ren π := by
  obtain ⟨i, k, s, o, ks⟩ := d
  have hl : (shD n ks).length = ks.length := by rw [shD_map, List.length_map]
  cases o with
  | none => simp only [DT.sh, DT.cell, AV.ren, renL, kidAV, Option.map_none]
  | some p =>
    have hp := hπ p (h p (by simp [DT.foot]))
    simp only [DT.sh, DT.cell, AV.ren, renL, kidAV, Option.map_some, hl, hp]
theorem cells_ren {n m : Nat} {π : List Nat} (hπ : ∀ q, q < m → π.getD q 0 = n + q) : ∀ (ks : List DT), (∀ p ∈ footD ks, p < m) → (shD n ks).map DT.cell = renL π (ks.map DT.cell)
  | [], _ => rfl
  | d :: ds, h => by
    rw [shD, List.map_cons, List.map_cons, renL, DT.sh_cell hπ d fun p hp => h p (List.mem_append_left _ hp), cells_ren hπ ds fun p hp => h p (List.mem_append_right _ hp)]
mutual
theorem DT.moved {L M : Store} {π : List Nat} (hπ : ∀ q, q < M.length → π.getD q 0 = L.length + q) : ∀ {d : DT}, d.ok M → (d.sh L.length).ok (L ++ M.map (·.map (·.ren π)))
  | .node i k s o ks, hd => by
    refine ⟨?_, movedD hπ hd.2⟩
    cases o with
    | none =>
      obtain rfl : ks = [] := hd.1
      rfl
    | some p =>
      show (L ++ M.map (·.map (·.ren π)))[L.length + p]? = _
      rw [List.getElem?_append_right (Nat.le_add_right _ _), Nat.add_sub_cancel_left, List.getElem?_map, show M[p]? = _ from hd.1]
      simp only [Option.map_some, AO.ren, cells_ren hπ ks fun q hq => oksD.lt hd.2 q hq]
theorem movedD {L M : Store} {π : List Nat} (hπ : ∀ q, q < M.length → π.getD q 0 = L.length + q) : ∀ {ks : List DT}, oksD M ks → oksD (L ++ M.map (·.map (·.ren π))) (shD L.length ks)
  | [], _ => trivial
  | d :: ds, hd => ⟨DT.moved hπ hd.1, movedD hπ hd.2⟩
end
theorem mergeN (L M : Store) (π' : List Nat) : mergeL L [] π' M = L ++ M.map (·.map (·.ren π')) := by
  unfold mergeL
  congr 1
  · refine List.ext_getElem? fun q => ?_
    rw [List.getElem?_map]
    rcases Nat.lt_or_ge q L.length with h | h
    · rw [List.getElem?_range h, List.getElem?_eq_getElem h]
      simp [List.idxOf?, List.getElem?_eq_getElem h]
    · rw [List.getElem?_eq_none (by simpa using h), List.getElem?_eq_none h]
      rfl
theorem newsN (L M : Store) {q : Nat} (h : q < M.length) : (news L [] M).getD q 0 = L.length + q := by
  unfold news
  simp [List.getD_eq_getElem?_getD, h]
/-- A call leaves a tree of ours. -/
def dR (t : Tree) (L : Store) : AEnd → Store → Prop := fun x L' => ∃ (M : Store) (d : DT), x = .ret d.cell ∧ L' = L ++ M ∧ d.tree = t ∧ d.ok L' ∧ d.foot.Nodup ∧ ∀ q ∈ d.foot, L.length ≤ q
theorem dR.call {P : Program} {f : FuncId} {args : List AV} {t : Tree} (h : TC P f args [] (dR t [])) (hp : purL args = true) (L : Store) : TC P f args L (dR t L) := by
  refine ⟨TCall.frame (L := L) [] h.h List.nodup_nil rfl (fun i p hi => by simp at hi) rfl (fun j a a' ha ha' => ?_) fun x L' _ ⟨M, d, hx, hL, ht, hs, hn, _⟩ => ?_⟩
  · rw [ha] at ha'
    cases ha'
    exact Rn.pure (purL_mem hp (List.mem_of_getElem? ha))
  · obtain rfl : L' = M := hL
    subst hx
    have hπ : ∀ q, q < L'.length → (news L [] L').getD q 0 = L.length + q := fun q hq => newsN L L' hq
    refine ⟨L'.map (·.map (·.ren (news L [] L'))), d.sh L.length, ?_, mergeN .., (DT.sh_tree _ d).trans ht, ?_, ?_, fun q hq => ?_⟩
    · rw [DT.sh_cell hπ d (DT.ok.lt hs)]
      rfl
    · rw [mergeN]
      exact DT.moved hπ hs
    · rw [DT.sh_foot]
      exact List.pairwise_map.2 (hn.imp fun hab e => hab (Nat.add_left_cancel e))
    · rw [DT.sh_foot] at hq
      obtain ⟨z, _, rfl⟩ := List.mem_map.1 hq
      omega
end Go.Proofs.Ytaieiigfheabfaa

/-! tree.Copy leaves a tree of ours. -/
namespace Go.Proofs.Ytaieiigfheabfaa
open Go.Proofs.Ytaieiigfheabfaa.Tw
def RwD (ks : List Tree) (L : Store) (j : Nat) (v : AV) : Prop := (j = 0 ∧ v = .nils) ∨ ∃ (p : Nat) (ds : List DT), v = .row p 4 0 j ∧ 2 ≤ p ∧ L[p]? = some (some (.arr 4 (ds.map DT.cell))) ∧ oksD L ds ∧ treesD ds = ks.take j ∧ (p :: footD ds).Nodup ∧ ∀ x ∈ footD ds, 2 ≤ x
theorem kid_scal (n : Nat) (o : Option Nat) : (kidAV n o).scalar = true := by cases o <;> rfl
theorem DT.cell_node {d : DT} {i k : Int} {s : ByteArray} {ks : List Tree} (h : d.tree = .node i k s ks) : ∃ o dks, d = .node i k s o dks ∧ treesD dks = ks := by
  obtain ⟨a, b, c, o, dks⟩ := d
  rw [DT.tree] at h
  injection h with h1 h2 h3 h4
  subst h1 h2 h3
  exact ⟨o, dks, rfl, h4⟩
theorem RwD.step {ks : List Tree} {L L4 L5 : Store} {pr p4 j jc : Nat} {ds : List DT} {d : DT} {t : Tree} (hds : oksD L ds) (htr : treesD ds = ks.take j) (hnd : (footD ds).Nodup) (hpr : pr ∉ footD ds) (h2 : ∀ x ∈ footD ds, 2 ≤ x) (ht : ks[j]? = some t) (hd : d.ok L4) (hdt : d.tree = t) (hdn : d.foot.Nodup) (hge : ∀ x ∈ d.foot, L.length ≤ x) (h2L : 2 ≤ L.length)
    (hp4 : p4 = L4.length) (hle : L.length ≤ L4.length) (h5 : ∀ x, x < L.length → x ≠ pr → L5[x]? = L[x]?) (h6 : ∀ x, L.length ≤ x → x < L4.length → L5[x]? = L4[x]?) (hp5 : L5[p4]? = some (some (.arr 4 (ds.map DT.cell ++ [d.cell])))) (hjc : jc = j + 1) : RwD ks L5 jc (.row p4 4 0 jc) := by
  have hf1 := oksD.lt hds
  have hf2 := DT.ok.lt hd
  subst hjc
  refine .inr ⟨p4, ds ++ [d], rfl, by omega, by rw [hp5, List.map_append]; rfl, oksD_app.2 ⟨oksD.same (fun x hx => h5 x (hf1 x hx) fun e => hpr (e ▸ hx)) hds, DT.ok.same (fun x hx => h6 x (hge x hx) (hf2 x hx)) hd, trivial⟩, by rw [treesD_app, htr, List.take_add_one, ht, treesD, hdt]; rfl, ?_, fun x hx => ?_⟩
  · rw [footD_app]
    simp only [footD, List.append_nil]
    refine List.nodup_cons.2 ⟨fun h => ?_, List.nodup_append.2 ⟨hnd, hdn, fun a ha b hb e => ?_⟩⟩
    · rcases List.mem_append.1 h with h | h
      · have := hf1 _ h; omega
      · have := hf2 _ h; omega
    · have := hf1 a ha
      have := hge b hb
      omega
  · rw [footD_app] at hx
    simp only [footD, List.append_nil] at hx
    rcases List.mem_append.1 hx with hx | hx
    · exact h2 x hx
    · have := hge x hx; omega
set_option maxHeartbeats 2000000 in
theorem copyD (A : Ar) (E : Em) {P : Program} (hP : P = Try.prog) : ∀ (n : Nat) (t : Tree), within n t → TC P 63 [E.tree.v t] [] (dR t []) := by
  intro n
  induction n with
  | zero => exact fun _ h => h.elim
  | succ m ih =>
  intro t hw
  obtain ⟨i, k, s, ks⟩ := t
  have hll := E.tree.len ks
  have hwl := hw.len'
  rw [E.node]
  refine TC.of_ewp A T0 (T0_ok hP) (hP ▸ Try.func63) rfl _ rfl (by simp) ?_
  obtain ⟨R, hR⟩ : ∃ R, R = dR (.node i k s ks) [] := ⟨_, rfl⟩
  rw [← hR]
  cbv
  ((try cbv) <;> (repeat ((with_reducible refine EW.of ?_); cbv)))
  obtain ⟨T, hT⟩ : ∃ T, T = AV.agg [.int .i64 i, .int .i64 k, .str s, .sl 4 (E.tree.l ks)] := ⟨_, rfl⟩
  obtain ⟨J, hJ⟩ : ∃ J : Nat → AFr → Store → Prop, J = fun c fr L => ∃ j v, c = ks.length - j ∧ j ≤ ks.length ∧ fr = ⟨22, [(9, .int .i64 j), (8, .int .i64 (A.len (E.tree.l ks))), (7, .sl 4 (E.tree.l ks)), (3, v), (2, .ref 1 4 0 0), (1, .ref 0 4 0 0)]⟩ ∧ L[0]? = some (some (.box 4 T)) ∧ L[1]? = some (some (.box 4 (.agg [.int .i64 0, .int .i64 0, .str ⟨⟨[]⟩⟩, .nils]))) ∧ RwD ks L j v := ⟨_, rfl⟩
  refine TW.loopE A (T0_ok hP) J (n0 := ks.length) (fr0 := ⟨22, [(9, .int .i64 0), (8, .int .i64 (A.len (E.tree.l ks))), (7, .sl 4 (E.tree.l ks)), (3, .nils), (2, .ref 1 4 0 0), (1, .ref 0 4 0 0)]⟩)
    (VS.pick rfl (.cons (Sub.refl _) (.cons (Sub.refl _) (.cons (Sub.refl _) (.cons (Sub.refl _) (.cons (Sub.refl _) (.cons (Sub.refl _) .nil)))))))
    (by rw [hJ]; exact ⟨0, .nils, rfl, Nat.zero_le _, rfl, by rw [hT]; rfl, rfl, .inl ⟨rfl, rfl⟩⟩) ?_
  intro c fr L hj
  rw [hJ] at hj
  obtain ⟨j, v, hc, hj, rfl, h0, h1, hv⟩ := hj
  cbv
  ((try cbv) <;> (repeat ((with_reducible refine EW.of ?_); cbv)))
  refine bsplit (fun h => ?_) (fun h => ?_)
  · have h : j < (E.tree.l ks).length := lt_nt h rfl (A.ok_len _)
    obtain ⟨t', ht'⟩ : ∃ t', ks[j]? = some t' := ⟨_, List.getElem?_eq_getElem (by omega)⟩
    have hwt := hw.2 t' (List.mem_of_getElem? ht')
    obtain ⟨i', k', s', ks'⟩ := t'
    ((try cbv) <;> (repeat ((with_reducible refine EW.of ?_); cbv)))
    refine ⟨j, _, rfl, E.getn ht', ?_⟩
    cbv
    obtain ⟨q, hq⟩ : ∃ q, q = L.length := ⟨_, rfl⟩
    obtain ⟨L2, hL2⟩ : ∃ M : Store, M = L ++ [some (.box 4 (.agg [.int .i64 0, .int .i64 0, .str ⟨⟨[]⟩⟩, .nils]))] := ⟨_, rfl⟩
    have hg2 : L2[q]? = some (some (.box 4 (.agg [.int .i64 0, .int .i64 0, .str ⟨⟨[]⟩⟩, .nils]))) := by rw [hL2, hq]; simp
    simp only [← List.length.eq_def, ← List.append.eq_def, ← List.get?Internal.eq_def]
    rw [← hq]
    rw [show L.append [some (.box 4 (.agg [.int .i64 0, .int .i64 0, .str ⟨⟨[]⟩⟩, .nils]))] = L2 from hL2.symm]
    rw [show L2.get?Internal q = _ from hg2]
    refine chk_iff.2 ⟨by rfl, ?_⟩
    have hgn := E.node i' k' s' ks'
    generalize hL3 : List.set L2 q _ = L3
    replace hL3 : L3 = L2.set q (some (.box 4 (.agg [.int .i64 i', .int .i64 k', .str s', .sl 4 (E.tree.l ks')]))) := hL3.symm
    have hq2 : q < L2.length := (List.getElem?_eq_some_iff.1 hg2).1
    have hg3 : L3[q]? = some (some (.box 4 (.agg [.int .i64 i', .int .i64 k', .str s', .sl 4 (E.tree.l ks')]))) := by rw [hL3, List.getElem?_set_self hq2]
    have hx3 : ∀ x, x < L.length → L3[x]? = L[x]? := fun x hx => by rw [hL3, List.getElem?_set_ne (by omega), hL2, List.getElem?_append_left hx]
    cbv
    with_reducible refine EW.of ?_
    cbv
    simp only [← List.get?Internal.eq_def]
    rw [show L3.get?Internal q = _ from hg3]
    cbv
    have hcp := ih _ hwt
    rw [hgn] at hcp
    have ppk : purL [.agg [.int .i64 i', .int .i64 k', .str s', .sl 4 (E.tree.l ks')]] = true := by (repeat (first | exact rfl | exact Emb.purL _ _ | assumption | apply pur_cons | apply pur_sl | apply pur_slt | apply pur_agg | apply pur_tup))
    refine ⟨Ent.of (hP ▸ Try.func63) rfl, TC.mono (dR.call hcp ppk L3) ?_⟩
    rintro x L4 ⟨M, d, rfl, hL4, hdt, hd, hdn, hge⟩
    obtain ⟨o, dks, hdd, hdk⟩ := DT.cell_node hdt
    obtain ⟨kid, hkid⟩ : ∃ kid, kid = kidAV dks.length o := ⟨_, rfl⟩
    have hsc : kid.scalar = true := by rw [hkid]; exact kid_scal _ _
    have hcell : d.cell = .agg [.int .i64 i', .int .i64 k', .str s', kid] := by rw [hdd, DT.cell, hkid]
    have hx4 : ∀ x, x < L3.length → L4[x]? = L3[x]? := fun x hx => by rw [hL4, List.getElem?_append_left hx]
    obtain ⟨p4, hp4⟩ : ∃ p, p = L4.length := ⟨_, rfl⟩
    obtain ⟨jc, hjc⟩ : ∃ x, x = j + 1 := ⟨_, rfl⟩
    have hj1 : A.op .add .i64 (j : Int) 1 = (jc : Int) := by rw [hjc]; exact inc_eq A (by omega)
    have hl2 : L2.length = L.length + 1 := by rw [hL2]; simp
    have hl3 : L3.length = L.length + 1 := by rw [hL3, List.length_set, hl2]
    have hl4 : L.length + 1 ≤ L4.length := by rw [hL4, List.length_append, hl3]; omega
    have h0l := (List.getElem?_eq_some_iff.1 h0).1
    have h1l := (List.getElem?_eq_some_iff.1 h1).1
    have hx43 : ∀ x, x < L.length → L4[x]? = L[x]? := fun x hx => (hx4 x (by omega)).trans (hx3 x hx)
    have hge' : ∀ x ∈ d.foot, L.length ≤ x := fun x hx => by have := hge x hx; omega
    have hscl : escal [.agg [.int .i64 i', .int .i64 k', .str s', kid]] = true := by rw [hkid]; cases o <;> rfl
    rw [hcell]
    rcases hv with ⟨hj0, rfl⟩ | ⟨pr, ds, rfl, hpr2, hpr, hds, htr, hnd, h2f⟩
    · cbv
      ((try cbv) <;> (repeat ((with_reducible refine EW.of ?_); cbv)))
      refine ⟨⟨hscl⟩, jc, [.agg [.int .i64 i', .int .i64 k', .str s', kid]], by rw [hjc, hj0]; rfl, rfl, Nat.zero_le _, by omega, by omega, ?_⟩
      rw [← hp4]
      generalize hL5 : L4 ++ [some (.arr _ _)] = L5
      replace hL5 : L5 = L4 ++ [some (.arr 4 [.agg [.int .i64 i', .int .i64 k', .str s', kid]])] := hL5.symm
      have h54 : ∀ x, x < L4.length → L5[x]? = L4[x]? := fun x hx => by rw [hL5, List.getElem?_append_left hx]
      have hp5 : L5[p4]? = some (some (.arr 4 [.agg [.int .i64 i', .int .i64 k', .str s', kid]])) := by rw [hL5, hp4]; simp
      have g0 : L5[0]? = _ := (h54 0 (by omega)).trans ((hx43 0 h0l).trans h0)
      have g1 : L5[1]? = _ := (h54 1 (by omega)).trans ((hx43 1 h1l).trans h1)
      have hE5 : RwD ks L5 jc (.row p4 4 0 jc) := RwD.step (L := L) (pr := L.length) (ds := []) (j := j) trivial (by rw [hj0]; rfl) List.nodup_nil (by simp [footD]) (by simp [footD]) ht' hd hdt hdn hge' (by omega) hp4 (by omega) (fun x hx _ => (h54 x (by omega)).trans (hx43 x hx)) (fun x _ hx => h54 x hx) (by rw [hp5, hcell]; rfl) hjc
      cbv
      ((try cbv) <;> (repeat ((with_reducible refine EW.of ?_); cbv)))
      refine ⟨⟨ks.length - jc, ⟨22, [(9, .int .i64 (jc : Int)), (8, .int .i64 (A.len (E.tree.l ks))), (7, .sl 4 (E.tree.l ks)), (3, .row p4 4 0 jc), (2, .ref 1 4 0 0), (1, .ref 0 4 0 0)]⟩, L5, by omega, VS.pick rfl (.cons ?_ (.cons (Sub.refl _) (.cons (Sub.refl _) (.cons (Sub.refl _) (.cons (Sub.refl _) (.cons (Sub.refl _) .nil)))))), ?_⟩⟩
      · show Tw.Sub (.int .i64 (A.op .add .i64 (j : Int) 1)) _
        rw [hj1]
        exact Sub.refl _
      · rw [hJ]
        exact ⟨jc, _, rfl, by omega, rfl, g0, g1, hE5⟩
    · have hprl := (List.getElem?_eq_some_iff.1 hpr).1
      have hpr4 := (hx43 pr hprl).trans hpr
      obtain ⟨els, hels⟩ : ∃ els, els = ds.map DT.cell := ⟨_, rfl⟩
      have hell : els.length = j := by
        have := congrArg List.length htr
        rw [treesD_len, List.length_take] at this
        rw [hels, List.length_map]
        omega
      rw [← hels] at hpr4
      cbv
      ((try cbv) <;> (repeat ((with_reducible refine EW.of ?_); cbv)))
      simp only [← List.get?Internal.eq_def]
      rw [show L4.get?Internal pr = _ from hpr4]
      refine chk_iff.2 ⟨by rfl, ?_⟩
      refine ⟨⟨hscl⟩, jc, els ++ [.agg [.int .i64 i', .int .i64 k', .str s', kid]], by rw [hjc]; rfl, by rw [List.take_of_length_le (by omega)], by omega, by show jc * 56 ≤ _; omega, by omega, ?_⟩
      rw [← hp4]
      dsimp only
      generalize hL5 : L4.set pr none ++ [some (.arr _ _)] = L5
      replace hL5 : L5 = L4.set pr none ++ [some (.arr 4 (els ++ [.agg [.int .i64 i', .int .i64 k', .str s', kid]]))] := hL5.symm
      have h54 : ∀ x, x < L4.length → x ≠ pr → L5[x]? = L4[x]? := fun x hx hne => by rw [hL5, List.getElem?_append_left (by simpa using hx), List.getElem?_set_ne (Ne.symm hne)]
      have hp5 : L5[p4]? = some (some (.arr 4 (els ++ [.agg [.int .i64 i', .int .i64 k', .str s', kid]]))) := by rw [hL5, hp4]; simp
      have g0 : L5[0]? = _ := (h54 0 (by omega) (by omega)).trans ((hx43 0 h0l).trans h0)
      have g1 : L5[1]? = _ := (h54 1 (by omega) (by omega)).trans ((hx43 1 h1l).trans h1)
      have hnd' := List.nodup_cons.1 hnd
      have hE5 : RwD ks L5 jc (.row p4 4 0 jc) := RwD.step hds htr hnd'.2 hnd'.1 h2f ht' hd hdt hdn hge' (by omega) hp4 (by omega) (fun x hx hne => (h54 x (by omega) hne).trans (hx43 x hx)) (fun x hge hx => h54 x hx (by omega)) (by rw [hp5, hcell, hels]) hjc
      cbv
      ((try cbv) <;> (repeat ((with_reducible refine EW.of ?_); cbv)))
      refine ⟨⟨ks.length - jc, ⟨22, [(9, .int .i64 (jc : Int)), (8, .int .i64 (A.len (E.tree.l ks))), (7, .sl 4 (E.tree.l ks)), (3, .row p4 4 0 jc), (2, .ref 1 4 0 0), (1, .ref 0 4 0 0)]⟩, L5, by omega, VS.pick rfl (.cons ?_ (.cons (Sub.refl _) (.cons (Sub.refl _) (.cons (Sub.refl _) (.cons (Sub.refl _) (.cons (Sub.refl _) .nil)))))), ?_⟩⟩
      · show Tw.Sub (.int .i64 (A.op .add .i64 (j : Int) 1)) _
        rw [hj1]
        exact Sub.refl _
      · rw [hJ]
        exact ⟨jc, _, rfl, by omega, rfl, g0, g1, hE5⟩
  · have h : (E.tree.l ks).length ≤ j := lt_nf h rfl (A.ok_len _)
    have hjl : j = ks.length := by omega
    have hks : ks.take j = ks := List.take_of_length_le (by omega)
    have h0l := (List.getElem?_eq_some_iff.1 h0).1
    have h1l := (List.getElem?_eq_some_iff.1 h1).1
    rw [hT] at h0
    rcases hv with ⟨hj0, rfl⟩ | ⟨pr, ds, rfl, hpr2, hpr, hds, htr, hnd, h2f⟩
    · skip
      ((try cbv) <;> (repeat ((with_reducible refine EW.of ?_); cbv)))
      simp only [← List.get?Internal.eq_def]
      rw [show L.get?Internal 0 = _ from h0]
      refine chk_iff.2 ⟨by rfl, ?_⟩
      generalize hL6 : List.set L 0 _ = L6
      replace hL6 : L6 = L.set 0 (some (.box 4 (.agg [.int .i64 i, .int .i64 k, .str s, .nils]))) := hL6.symm
      have g0 : L6[0]? = some (some (.box 4 (.agg [.int .i64 i, .int .i64 k, .str s, .nils]))) := by rw [hL6, List.getElem?_set_self h0l]
      have g6 : ∀ x, x ≠ 0 → L6[x]? = L[x]? := fun x hx => by rw [hL6, List.getElem?_set_ne (Ne.symm hx)]
      have g1 := (g6 1 (by decide)).trans h1
      cbv
      with_reducible refine EW.of ?_
      cbv
      simp only [← List.get?Internal.eq_def]
      rw [show L6.get?Internal 0 = _ from g0]
      cbv
      simp only [← List.get?Internal.eq_def]
      rw [show L6.get?Internal 1 = _ from g1]
      refine chk_iff.2 ⟨by rfl, ?_⟩
      generalize hL7 : List.set L6 1 _ = L7
      replace hL7 : L7 = L6.set 1 (some (.box 4 (.agg [.int .i64 i, .int .i64 k, .str s, .nils]))) := hL7.symm
      have h6l : 1 < L6.length := by rw [hL6, List.length_set]; exact h1l
      have g17 : L7[1]? = some (some (.box 4 (.agg [.int .i64 i, .int .i64 k, .str s, .nils]))) := by rw [hL7, List.getElem?_set_self h6l]
      have g7 : ∀ x, x ≠ 0 → x ≠ 1 → L7[x]? = L[x]? := fun x hx hx1 => by rw [hL7, List.getElem?_set_ne (Ne.symm hx1), g6 x hx]
      cbv
      with_reducible refine EW.of ?_
      cbv
      simp only [← List.get?Internal.eq_def]
      rw [show L7.get?Internal 1 = _ from g17]
      refine chk_iff.2 ⟨by rfl, ?_⟩
      have hks0 : ks = [] := List.length_eq_zero_iff.1 (by omega)
      have hres : dR (.node i k s ks) [] (.ret (.agg [.int .i64 i, .int .i64 k, .str s, .sl 4 []])) L7 := ⟨L7, .node i k s none [], rfl, rfl, by rw [hks0]; rfl, ⟨rfl, trivial⟩, List.nodup_nil, fun _ _ => Nat.zero_le _⟩
      rw [← hR] at hres
      cbv
      exact ⟨.agg [.int .i64 i, .int .i64 k, .str s, .sl 4 []], L7, VSV.sub (Sub.agg rfl fun j c d hc hd => by
        match j, hc, hd with
        | 0, hc, hd => cases hc; cases hd; exact Sub.refl _
        | 1, hc, hd => cases hc; cases hd; exact Sub.refl _
        | 2, hc, hd => cases hc; cases hd; exact Sub.refl _
        | 3, hc, hd => cases hc; cases hd; exact Sub.nils 4
        | j + 4, hc, hd => exact absurd hd (by simp)), hres⟩
    · skip
      ((try cbv) <;> (repeat ((with_reducible refine EW.of ?_); cbv)))
      simp only [← List.get?Internal.eq_def]
      rw [show L.get?Internal 0 = _ from h0]
      refine chk_iff.2 ⟨by rfl, ?_⟩
      generalize hL6 : List.set L 0 _ = L6
      replace hL6 : L6 = L.set 0 (some (.box 4 (.agg [.int .i64 i, .int .i64 k, .str s, .row pr 4 0 j]))) := hL6.symm
      have g0 : L6[0]? = some (some (.box 4 (.agg [.int .i64 i, .int .i64 k, .str s, .row pr 4 0 j]))) := by rw [hL6, List.getElem?_set_self h0l]
      have g6 : ∀ x, x ≠ 0 → L6[x]? = L[x]? := fun x hx => by rw [hL6, List.getElem?_set_ne (Ne.symm hx)]
      have g1 := (g6 1 (by decide)).trans h1
      cbv
      with_reducible refine EW.of ?_
      cbv
      simp only [← List.get?Internal.eq_def]
      rw [show L6.get?Internal 0 = _ from g0]
      cbv
      simp only [← List.get?Internal.eq_def]
      rw [show L6.get?Internal 1 = _ from g1]
      refine chk_iff.2 ⟨by rfl, ?_⟩
      generalize hL7 : List.set L6 1 _ = L7
      replace hL7 : L7 = L6.set 1 (some (.box 4 (.agg [.int .i64 i, .int .i64 k, .str s, .row pr 4 0 j]))) := hL7.symm
      have h6l : 1 < L6.length := by rw [hL6, List.length_set]; exact h1l
      have g17 : L7[1]? = some (some (.box 4 (.agg [.int .i64 i, .int .i64 k, .str s, .row pr 4 0 j]))) := by rw [hL7, List.getElem?_set_self h6l]
      have g7 : ∀ x, x ≠ 0 → x ≠ 1 → L7[x]? = L[x]? := fun x hx hx1 => by rw [hL7, List.getElem?_set_ne (Ne.symm hx1), g6 x hx]
      cbv
      with_reducible refine EW.of ?_
      cbv
      simp only [← List.get?Internal.eq_def]
      rw [show L7.get?Internal 1 = _ from g17]
      refine chk_iff.2 ⟨by rfl, ?_⟩
      have hne : ∀ x, 2 ≤ x → L7[x]? = L[x]? := fun x hx => g7 x (by omega) (by omega)
      have hjd : j = ds.length := by
        have := congrArg List.length htr
        rw [treesD_len, List.length_take] at this
        omega
      have hres : dR (.node i k s ks) [] (.ret (.agg [.int .i64 i, .int .i64 k, .str s, .row pr 4 0 j])) L7 := ⟨L7, .node i k s (some pr) ds, by rw [hjd]; rfl, rfl, by rw [DT.tree, htr, hks], ⟨(hne pr hpr2).trans hpr, oksD.same (fun x hx => hne x (h2f x hx)) hds⟩, hnd, fun _ _ => Nat.zero_le _⟩
      rw [← hR] at hres
      cbv
      exact ⟨_, L7, VSV.refl _ _ _, hres⟩
end Go.Proofs.Ytaieiigfheabfaa

/-! step.own leaves a tree of ours, at places that are known ahead. -/
namespace Go.Proofs.Ytaieiigfheabfaa
open Go.Proofs.Ytaieiigfheabfaa.Tw
/-- Objects that came, at other places. -/
def mvS (L M : Store) : Store := M.map (·.map (·.ren (news L [] M)))
theorem mvS_len (L M : Store) : (mvS L M).length = M.length := by simp [mvS]
theorem TC1.atL {P : Program} {f : FuncId} {args : List AV} {d : DT} {M : Store} (h : TC1 P f args [] d.cell M) (hp : purL args = true) (hlt : ∀ p ∈ d.foot, p < M.length) (L : Store) : TC P f args L (fun x L' => x = .ret (d.sh L.length).cell ∧ L' = L ++ mvS L M) := by
  refine ⟨TCall.frame (L := L) [] h.h List.nodup_nil rfl (fun i p hi => by simp at hi) rfl (fun j a a' ha ha' => ?_) fun x L' _ ⟨hx, hL⟩ => ?_⟩
  · rw [ha] at ha'
    cases ha'
    exact Rn.pure (purL_mem hp (List.mem_of_getElem? ha))
  · subst hL hx
    refine ⟨?_, mergeN ..⟩
    rw [DT.sh_cell (fun q hq => newsN L L' hq) d hlt]
    rfl
theorem okMoved {L M : Store} {d : DT} (hd : d.ok M) : (d.sh L.length).ok (L ++ mvS L M) := DT.moved (fun q hq => newsN L M hq) hd
def rowEls (L : Store) : AV → List AV
  | .row p _ _ _ => match L[p]? with
    | some (some (.arr _ els)) => els
    | _ => []
  | _ => []
def killRow (L : Store) : AV → Store
  | .row p _ _ _ => L.set p none
  | _ => L
/-- One more kid. -/
def ownStep (i k : Int) (s : ByteArray) (d : DT) (Mk : Store) (x : Store × AV) : Store × AV :=
  let L4 := x.1 ++ mvS x.1 Mk
  let v := AV.row L4.length 4 0 ((rowEls x.1 x.2).length + 1)
  ((killRow L4 x.2 ++ [some (AO.arr 4 (rowEls x.1 x.2 ++ [(d.sh x.1.length).cell]))]).set 1 (some (.box 4 (.agg [.int .i64 i, .int .i64 k, .str s, v]))), v)
def z4 : AV := .agg [.int .i64 0, .int .i64 0, .str ⟨#[]⟩, .nils]
def ownSt (i k : Int) (s : ByteArray) (D : Nat → DT) (MM : Nat → Store) : Nat → Store × AV
  | 0 => ([some (.box 4 z4), some (.box 4 (.agg [.int .i64 i, .int .i64 k, .str s, .nils]))], .nils)
  | j + 1 => ownStep i k s (D j) (MM j) (ownSt i k s D MM j)
/-- What is known of the objects behind j kids. -/
structure OwnInv (ks : List Tree) (i k : Int) (s : ByteArray) (j : Nat) (x : Store × AV) : Prop where
  b0 : x.1[0]? = some (some (.box 4 z4))
  b1 : x.1[1]? = some (some (.box 4 (.agg [.int .i64 i, .int .i64 k, .str s, x.2])))
  rw : RwD ks x.1 j x.2
theorem RwD.els {ks : List Tree} {L : Store} {j : Nat} {v : AV} (h : RwD ks L j v) (hj : j ≤ ks.length) : (rowEls L v).length = j := by
  rcases h with ⟨rfl, rfl⟩ | ⟨p, ds, rfl, h2, hp, hds, htr, hn, hf⟩
  · rfl
  · simp only [rowEls, hp]
    have := congrArg List.length htr
    rw [treesD_len, List.length_take] at this
    rw [List.length_map]
    omega
theorem RwD.same {ks : List Tree} {L L' : Store} {j : Nat} {v : AV} (h : RwD ks L j v) (hs : ∀ x, 2 ≤ x → L'[x]? = L[x]?) : RwD ks L' j v := by
  rcases h with ⟨rfl, rfl⟩ | ⟨p, ds, rfl, h2, hp, hds, htr, hn, hf⟩
  · exact .inl ⟨rfl, rfl⟩
  · exact .inr ⟨p, ds, rfl, h2, (hs p h2).trans hp, oksD.same (fun x hx => hs x (hf x hx)) hds, htr, hn, hf⟩
theorem OwnInv.step {ks : List Tree} {i k : Int} {s : ByteArray} {j : Nat} {x : Store × AV} (h : OwnInv ks i k s j x) {t : Tree} (ht : ks[j]? = some t) {d : DT} {Mk : Store} (hdt : d.tree = t) (hd : d.ok Mk) (hdn : d.foot.Nodup) : OwnInv ks i k s (j + 1) (ownStep i k s d Mk x) := by
  obtain ⟨L, v⟩ := x
  obtain ⟨h0, h1, hr⟩ := h
  dsimp only at h0 h1 hr
  have hjl := (List.getElem?_eq_some_iff.1 ht).1
  have hel := hr.els (Nat.le_of_lt hjl)
  have h1l := (List.getElem?_eq_some_iff.1 h1).1
  have hd4 : (d.sh L.length).ok (L ++ mvS L Mk) := okMoved hd
  have hge : ∀ x ∈ (d.sh L.length).foot, L.length ≤ x := fun x hx => by
    rw [DT.sh_foot] at hx
    obtain ⟨z, _, rfl⟩ := List.mem_map.1 hx
    omega
  have hdn4 : (d.sh L.length).foot.Nodup := by
    rw [DT.sh_foot]
    exact List.pairwise_map.2 (hdn.imp fun hab e => hab (Nat.add_left_cancel e))
  have hl4 : L.length ≤ (L ++ mvS L Mk).length := by rw [List.length_append]; omega
  have x4 : ∀ x, x < L.length → (L ++ mvS L Mk)[x]? = L[x]? := fun x hx => List.getElem?_append_left hx
  obtain ⟨L4, hL4⟩ : ∃ M, M = L ++ mvS L Mk := ⟨_, rfl⟩
  rw [← hL4] at hd4 hl4 x4
  have key : ∀ L5 : Store, L5.length = L4.length + 1 → L5[0]? = L[0]? → RwD ks L5 (j + 1) (.row L4.length 4 0 (j + 1)) → OwnInv ks i k s (j + 1) (L5.set 1 (some (.box 4 (.agg [.int .i64 i, .int .i64 k, .str s, .row L4.length 4 0 (j + 1)]))), .row L4.length 4 0 (j + 1)) := fun L5 hl e0 hr5 =>
    ⟨by rw [List.getElem?_set_ne (by decide), e0, h0], List.getElem?_set_self (by omega), hr5.same fun x hx => List.getElem?_set_ne (by omega)⟩
  unfold ownStep
  dsimp only
  rw [← hL4, hel]
  rcases hr with ⟨hj0, rfl⟩ | ⟨pr, ds, rfl, hpr2, hpr, hds, htr, hnd, h2f⟩
  · show OwnInv ks i k s (j + 1) ((L4 ++ [some (AO.arr 4 [(d.sh L.length).cell])]).set 1 _, _)
    refine key _ (by simp) (by rw [List.getElem?_append_left (by omega), x4 0 (by omega)]) ?_
    exact RwD.step (L := L) (L4 := L4) (pr := L.length) (ds := []) trivial (by rw [hj0]; rfl) List.nodup_nil (by simp [footD]) (by simp [footD]) ht hd4 ((DT.sh_tree _ d).trans hdt) hdn4 hge (by omega) rfl hl4 (fun x hx _ => by rw [List.getElem?_append_left (by omega), x4 x hx]) (fun x _ hx => List.getElem?_append_left hx) (by simp) rfl
  · have hrl := (List.getElem?_eq_some_iff.1 hpr).1
    have hre : rowEls L (.row pr 4 0 j) = ds.map DT.cell := by simp only [rowEls, hpr]
    rw [hre]
    show OwnInv ks i k s (j + 1) ((L4.set pr none ++ [some (AO.arr 4 (ds.map DT.cell ++ [(d.sh L.length).cell]))]).set 1 _, _)
    have hnd' := List.nodup_cons.1 hnd
    have y4 : ∀ x, x < L4.length → x ≠ pr → (L4.set pr none ++ [some (AO.arr 4 (ds.map DT.cell ++ [(d.sh L.length).cell]))])[x]? = L4[x]? := fun x hx hne => by rw [List.getElem?_append_left (by simpa using hx), List.getElem?_set_ne (Ne.symm hne)]
    refine key _ (by simp) (by rw [y4 0 (by omega) (by omega), x4 0 (by omega)]) ?_
    exact RwD.step hds htr hnd'.2 hnd'.1 h2f ht hd4 ((DT.sh_tree _ d).trans hdt) hdn4 hge (by omega) rfl hl4 (fun x hx hne => (y4 x (by omega) hne).trans (x4 x hx)) (fun x hge hx => y4 x hx (by omega)) (by simp) rfl
theorem ownSt_inv {ks : List Tree} {i k : Int} {s : ByteArray} {D : Nat → DT} {MM : Nat → Store} (h : ∀ (j : Nat) (t : Tree), ks[j]? = some t → (D j).tree = t ∧ (D j).ok (MM j) ∧ (D j).foot.Nodup) : ∀ j, j ≤ ks.length → OwnInv ks i k s j (ownSt i k s D MM j)
  | 0, _ => ⟨rfl, rfl, .inl ⟨rfl, rfl⟩⟩
  | j + 1, hj => by
    obtain ⟨t, ht⟩ : ∃ t, ks[j]? = some t := ⟨_, List.getElem?_eq_getElem hj⟩
    obtain ⟨a, b, c⟩ := h j t ht
    exact (ownSt_inv h j (Nat.le_of_lt hj)).step ht a b c
end Go.Proofs.Ytaieiigfheabfaa

/-! step.own, walked. -/
namespace Go.Proofs.Ytaieiigfheabfaa
open Go.Proofs.Ytaieiigfheabfaa.Tw
def tcells (E : Em) : Tree → List AV
  | .node i k s ks => [.int .i64 i, .int .i64 k, .str s, .sl 4 (E.tree.l ks)]
theorem tcells_pur (E : Em) (t : Tree) : purL [.imm (tcells E t)] = true := by
  obtain ⟨i, k, s, ks⟩ := t
  simp [tcells, purL, AV.pur, E.tree.purL]
theorem DT.sh_scal (d : DT) (n : Nat) : escal [(d.sh n).cell] = true := by
  obtain ⟨i, k, s, o, ks⟩ := d
  cases o <;> rfl
set_option maxHeartbeats 4000000 in
theorem own36 (A : Ar) (E : Em) {P : Program} (hP : P = Try.prog) : ∀ (n : Nat) (t : Tree), within n t → ∃ (d : DT) (M : Store), TC1 P 36 [.imm (tcells E t)] [] d.cell M ∧ d.tree = t ∧ d.ok M ∧ d.foot.Nodup := by
  intro n
  induction n with
  | zero => exact fun _ h => h.elim
  | succ m ih =>
  intro t hw
  obtain ⟨i, k, s, ks⟩ := t
  have hll := E.tree.len ks
  have hwl := hw.len'
  have hlk : A.len (E.tree.l ks) = (ks.length : Int) := by rw [A.ok_len, hll]
  have ih2 : ∀ j : Nat, ∃ x : DT × Store, ∀ t, ks[j]? = some t → (TC1 P 36 [.imm (tcells E t)] [] x.1.cell x.2 ∧ x.1.tree = t ∧ x.1.ok x.2 ∧ x.1.foot.Nodup) := fun j => by
    cases h : ks[j]? with
    | none => exact ⟨(.node 0 0 ⟨#[]⟩ none [], []), fun t h => by cases h⟩
    | some t =>
      obtain ⟨d, M, h1⟩ := ih t (hw.2 t (List.mem_of_getElem? h))
      exact ⟨(d, M), fun u hu => by cases hu; exact h1⟩
  obtain ⟨X, hX⟩ := Classical.axiomOfChoice ih2
  obtain ⟨st, hst⟩ : ∃ st, st = ownSt i k s (fun j => (X j).1) (fun j => (X j).2) := ⟨_, rfl⟩
  have hinv : ∀ j, j ≤ ks.length → OwnInv ks i k s j (st j) := fun j hj => by
    rw [hst]
    exact ownSt_inv (fun j t ht => ⟨(hX j t ht).2.1, (hX j t ht).2.2.1, (hX j t ht).2.2.2⟩) j hj
  have hstep : ∀ j, st (j + 1) = ownStep i k s (X j).1 (X j).2 (st j) := fun j => by rw [hst]; rfl
  have hzero : st 0 = ([some (.box 4 z4), some (.box 4 (.agg [.int .i64 i, .int .i64 k, .str s, .nils]))], .nils) := by rw [hst]; rfl
  clear hst
  obtain ⟨d, hd⟩ : ∃ d : DT, d.tree = .node i k s ks ∧ d.ok ((st ks.length).1.set 0 (some (.box 4 (.agg [.int .i64 i, .int .i64 k, .str s, (st ks.length).2])))) ∧ d.foot.Nodup ∧ Tw.Sub (.agg [.int .i64 i, .int .i64 k, .str s, (st ks.length).2]) d.cell := by
    obtain ⟨h0, h1, hr⟩ := hinv ks.length (Nat.le_refl _)
    rcases hr with ⟨hj, hv⟩ | ⟨p, ds, hv, h2, hp, hds, htr, hn, hf⟩
    · have hks : ks = [] := List.eq_nil_of_length_eq_zero hj
      refine ⟨.node i k s none [], by rw [hks]; rfl, ⟨rfl, trivial⟩, List.nodup_nil, ?_⟩
      rw [hv]
      exact Sub.agg rfl fun j c d hc hd => by
        match j, hc, hd with
        | 0, hc, hd => cases hc; cases hd; exact Sub.refl _
        | 1, hc, hd => cases hc; cases hd; exact Sub.refl _
        | 2, hc, hd => cases hc; cases hd; exact Sub.refl _
        | 3, hc, hd => cases hc; cases hd; exact Sub.nils 4
        | j + 4, hc, hd => exact absurd hd (by simp)
    · rw [List.take_length] at htr
      have hdl : ds.length = ks.length := by rw [← htr, treesD_len]
      refine ⟨.node i k s (some p) ds, by rw [DT.tree, htr], ⟨?_, oksD.same (fun x hx => List.getElem?_set_ne (by have := hf x hx; omega)) hds⟩, hn, ?_⟩
      · show (List.set _ 0 _)[p]? = _
        rw [List.getElem?_set_ne (by omega)]
        exact hp
      · rw [hv, DT.cell, hdl]
        exact Sub.refl _
  obtain ⟨hdt, hdo, hdn, hds⟩ := hd
  refine ⟨d, _, ?_, hdt, hdo, hdn⟩
  clear hdt hdo hdn
  have hfin := hinv ks.length (Nat.le_refl _)
  obtain ⟨dc, hdc⟩ : ∃ v, v = d.cell := ⟨_, rfl⟩
  rw [← hdc] at hds ⊢
  obtain ⟨Lf, hLf⟩ : ∃ M : Store, M = (st ks.length).1.set 0 (some (.box 4 (.agg [.int .i64 i, .int .i64 k, .str s, (st ks.length).2]))) := ⟨_, rfl⟩
  rw [← hLf]
  refine TC.of_ewp A T0 (T0_ok hP) (hP ▸ Try.func36) rfl _ rfl (by simp) ?_
  unfold tcells
  obtain ⟨R, hR⟩ : ∃ R : AEnd → Store → Prop, R = fun x M => x = .ret dc ∧ M = Lf := ⟨_, rfl⟩
  rw [← hR]
  cbv
  ((try cbv) <;> (repeat ((with_reducible refine EW.of ?_); cbv)))
  (refine TW.drawP (A := A) [(13, [some (.box 4 (.agg [.int .i64 0, .int .i64 0, .str ⟨#[]⟩, .nils]))])] (T0_ok hP) (hP ▸ follows_mixed) (by cbv) rfl (by cbv) (by cbv) (by cbv) rfl rfl rfl ?_; cbv)
  refine ⟨rfl, ?_⟩
  ((try cbv) <;> (repeat ((with_reducible refine EW.of ?_); cbv)))
  obtain ⟨J, hJ⟩ : ∃ J : Nat → AFr → Store → Prop, J = fun c fr L => ∃ j, c = ks.length - j ∧ j ≤ ks.length ∧ fr = ⟨40, [(23, .int .i64 j), (22, .int .i64 (A.len (E.tree.l ks))), (3, .ref 1 4 0 0), (2, .ref 0 4 0 0), (0, .imm [.int .i64 i, .int .i64 k, .str s, .sl 4 (E.tree.l ks)])]⟩ ∧ L = (st j).1 := ⟨_, rfl⟩
  refine TW.loopE A (T0_ok hP) J (n0 := ks.length) (fr0 := ⟨40, [(23, .int .i64 0), (22, .int .i64 (A.len (E.tree.l ks))), (3, .ref 1 4 0 0), (2, .ref 0 4 0 0), (0, .imm [.int .i64 i, .int .i64 k, .str s, .sl 4 (E.tree.l ks)])]⟩)
    (VS.pick rfl (.cons (Sub.refl _) (.cons (Sub.refl _) (.cons (Sub.refl _) (.cons (Sub.refl _) (.cons (Sub.refl _) .nil))))))
    (by rw [hJ]; exact ⟨0, rfl, Nat.zero_le _, rfl, by rw [hzero]; rfl⟩) ?_
  intro c fr L hj
  rw [hJ] at hj
  obtain ⟨j, hc, hj, rfl, hL⟩ := hj
  obtain ⟨h0, h1, hr⟩ := hinv j hj
  have hnx := hstep j
  have hel := hr.els hj
  obtain ⟨x, hx⟩ : ∃ x, x = st j := ⟨_, rfl⟩
  rw [← hx] at h0 h1 hr hnx hL hel
  obtain ⟨L', v⟩ := x
  obtain rfl : L = L' := hL
  dsimp only at h0 h1 hr hel
  obtain ⟨M, rfl⟩ : ∃ M, L = some (.box 4 z4) :: some (.box 4 (.agg [.int .i64 i, .int .i64 k, .str s, v])) :: M := by
    match L, h0, h1 with
    | a :: b :: M, h0, h1 =>
      obtain rfl : a = _ := by simpa using h0
      obtain rfl : b = _ := by simpa using h1
      exact ⟨M, rfl⟩
  unfold z4 at *
  cbv
  ((try cbv) <;> (repeat ((with_reducible refine EW.of ?_); cbv)))
  refine bsplit (fun h => ?_) (fun h => ?_)
  · have h : j < ks.length := lt_nt h rfl hlk
    obtain ⟨t', ht'⟩ : ∃ t', ks[j]? = some t' := ⟨_, List.getElem?_eq_getElem h⟩
    obtain ⟨hcall, hkt, hko, hkn⟩ := hX j t' ht'
    have hgt := E.tree.get ht'
    obtain ⟨d0, hd0⟩ : ∃ d, d = (X j).1 := ⟨_, rfl⟩
    obtain ⟨Mk, hMk⟩ : ∃ d, d = (X j).2 := ⟨_, rfl⟩
    rw [← hd0] at hcall hkt hko hkn hnx
    rw [← hMk] at hcall hko hnx
    obtain ⟨i', k', s', ks'⟩ := t'
    rw [E.node] at hgt
    have hpu := tcells_pur E (.node i' k' s' ks')
    unfold tcells at hcall hpu
    have hlt := DT.ok.lt hko
    clear hd0 hMk hX
    have hj1 : A.op .add .i64 (j : Int) 1 = ((j + 1 : Nat) : Int) := inc_eq A (by omega)
    rcases hr with ⟨hj0, rfl⟩ | ⟨pr, ds, rfl, hpr2, hpr, hds, htr, hnd, h2f⟩
    · obtain ⟨L, hL⟩ : ∃ L : Store, L = some (.box 4 (.agg [.int .i64 0, .int .i64 0, .str ⟨#[]⟩, .nils])) :: some (.box 4 (.agg [.int .i64 i, .int .i64 k, .str s, .nils])) :: M := ⟨_, rfl⟩
      have hat := TC1.atL hcall hpu hlt L
      have hsc := DT.sh_scal d0 L.length
      rw [← hL] at hnx
      obtain ⟨ck, hck⟩ : ∃ c, c = (d0.sh L.length).cell := ⟨_, rfl⟩
      obtain ⟨mk, hmk⟩ : ∃ c, c = mvS L Mk := ⟨_, rfl⟩
      unfold ownStep at hnx
      dsimp only [rowEls, killRow, List.length_nil] at hnx
      rw [← hck, ← hmk] at hnx hat
      rw [← hck] at hsc
      obtain ⟨ko, kds, hkd, _⟩ := DT.cell_node ((DT.sh_tree L.length d0).trans hkt)
      obtain ⟨kid, hkid⟩ : ∃ kid, kid = kidAV kds.length ko := ⟨_, rfl⟩
      have hkc : ck = .agg [.int .i64 i', .int .i64 k', .str s', kid] := by rw [hck, hkd, hkid]; rfl
      clear hck hmk hkd hkid
      subst hkc
      subst hL
      obtain ⟨M4, hM4⟩ : ∃ M4, M4 = M ++ mk := ⟨_, rfl⟩
      obtain ⟨M5, hM5⟩ : ∃ M5, M5 = M4 ++ [some (.arr 4 [.agg [.int .i64 i', .int .i64 k', .str s', kid]])] := ⟨_, rfl⟩
      simp only [List.cons_append, ← hM4, ← hM5] at hat hnx
      obtain ⟨n4, hn4⟩ : ∃ n, n = M4.length + 1 + 1 := ⟨_, rfl⟩
      simp only [List.length_cons, ← hn4, List.nil_append, List.length_nil, List.set_cons_succ, List.set_cons_zero, Nat.zero_add] at hnx
      ((try cbv) <;> (repeat ((with_reducible refine EW.of ?_); cbv)))
      refine TW.drawC (A := A) [some (.box 4 (.agg [.int .i64 0, .int .i64 0, .str ⟨#[]⟩, .nils])), some (.box 4 (.agg [.int .i64 i, .int .i64 k, .str s, .nils]))] M [(8, M4), (10, M5)] rfl (T0_ok hP) (hP ▸ follows_mixed) (by kernel_rfl) rfl (by kernel_rfl) (by cbv) (by first | kernel_rfl | cbv) rfl rfl rfl ?_
      cbv
      refine ⟨j, _, rfl, hgt, ?_⟩
      cbv
      refine ⟨Ent.of (hP ▸ Try.func36) rfl, .agg [.int .i64 i', .int .i64 k', .str s', kid], _, hat, rfl, ?_⟩
      cbv
      refine ⟨⟨hsc⟩, 1, [.agg [.int .i64 i', .int .i64 k', .str s', kid]], rfl, rfl, Nat.zero_le _, by decide, by decide, ?_⟩
      refine ⟨by rw [hM5]; rfl, ?_⟩
      rw [show (some (AO.box 4 (.agg [.int .i64 0, .int .i64 0, .str ⟨#[]⟩, .nils])) :: some (AO.box 4 (.agg [.int .i64 i, .int .i64 k, .str s, .nils])) :: M4).length = n4 from hn4.symm]
      ((try cbv) <;> (repeat ((with_reducible refine EW.of ?_); cbv)))
      refine ⟨⟨ks.length - (j + 1), ⟨40, [(23, .int .i64 ((j + 1 : Nat) : Int)), (22, .int .i64 (A.len (E.tree.l ks))), (3, .ref 1 4 0 0), (2, .ref 0 4 0 0), (0, .imm [.int .i64 i, .int .i64 k, .str s, .sl 4 (E.tree.l ks)])]⟩, _, by omega, VS.pick rfl (.cons ?_ (.cons (Sub.refl _) (.cons (Sub.refl _) (.cons (Sub.refl _) (.cons (Sub.refl _) .nil))))), ?_⟩⟩
      · show Tw.Sub (.int .i64 (A.op .add .i64 (j : Int) 1)) _
        rw [hj1]
        exact Sub.refl _
      · rw [hJ]
        exact ⟨j + 1, rfl, h, rfl, by rw [hnx, hM5]⟩
    · obtain ⟨pr, rfl⟩ : ∃ p, pr = p + 2 := ⟨pr - 2, by omega⟩
      have hprM : M[pr]? = some (some (.arr 4 (ds.map DT.cell))) := by simpa using hpr
      obtain ⟨els, hels⟩ : ∃ e, e = ds.map DT.cell := ⟨_, rfl⟩
      rw [← hels] at hprM
      have hre : ∀ (a b : Option AO), rowEls (a :: b :: M) (.row (pr + 2) 4 0 j) = els := fun a b => by simp [rowEls, hprM]
      have hprl := (List.getElem?_eq_some_iff.1 hprM).1
      rw [hre] at hel
      obtain ⟨L, hL⟩ : ∃ L : Store, L = some (.box 4 (.agg [.int .i64 0, .int .i64 0, .str ⟨#[]⟩, .nils])) :: some (.box 4 (.agg [.int .i64 i, .int .i64 k, .str s, .row (pr + 2) 4 0 j])) :: M := ⟨_, rfl⟩
      have hat := TC1.atL hcall hpu hlt L
      have hsc := DT.sh_scal d0 L.length
      rw [← hL] at hnx
      obtain ⟨ck, hck⟩ : ∃ c, c = (d0.sh L.length).cell := ⟨_, rfl⟩
      obtain ⟨mk, hmk⟩ : ∃ c, c = mvS L Mk := ⟨_, rfl⟩
      unfold ownStep at hnx
      rw [hL, hre, ← hL, hel] at hnx
      dsimp only [killRow] at hnx
      rw [← hck, ← hmk] at hnx hat
      rw [← hck] at hsc
      obtain ⟨ko, kds, hkd, _⟩ := DT.cell_node ((DT.sh_tree L.length d0).trans hkt)
      obtain ⟨kid, hkid⟩ : ∃ kid, kid = kidAV kds.length ko := ⟨_, rfl⟩
      have hkc : ck = .agg [.int .i64 i', .int .i64 k', .str s', kid] := by rw [hck, hkd, hkid]; rfl
      clear hck hmk hkd hkid
      subst hkc
      subst hL
      obtain ⟨M4, hM4⟩ : ∃ M4, M4 = M ++ mk := ⟨_, rfl⟩
      have hpr4 : M4[pr]? = some (some (.arr 4 els)) := by rw [hM4, List.getElem?_append_left hprl, hprM]
      obtain ⟨M5, hM5⟩ : ∃ M5, M5 = M4.set pr none ++ [some (.arr 4 (els ++ [.agg [.int .i64 i', .int .i64 k', .str s', kid]]))] := ⟨_, rfl⟩
      simp only [List.cons_append, ← hM4, ← hM5] at hat hnx
      obtain ⟨n4, hn4⟩ : ∃ n, n = M4.length + 1 + 1 := ⟨_, rfl⟩
      simp only [List.length_cons, ← hn4, List.nil_append, List.length_nil, List.set_cons_succ, List.set_cons_zero, Nat.zero_add, List.cons_append] at hnx
      ((try cbv) <;> (repeat ((with_reducible refine EW.of ?_); cbv)))
      refine TW.drawC (A := A) [some (.box 4 (.agg [.int .i64 0, .int .i64 0, .str ⟨#[]⟩, .nils])), some (.box 4 (.agg [.int .i64 i, .int .i64 k, .str s, .row (pr + 2) 4 0 j]))] M [(8, M4), (10, M5)] rfl (T0_ok hP) (hP ▸ follows_mixed) (by kernel_rfl) rfl (by kernel_rfl) (by cbv) (by first | kernel_rfl | cbv) rfl rfl rfl ?_
      cbv
      refine ⟨j, _, rfl, hgt, ?_⟩
      cbv
      refine ⟨Ent.of (hP ▸ Try.func36) rfl, .agg [.int .i64 i', .int .i64 k', .str s', kid], _, hat, rfl, ?_⟩
      cbv
      simp only [← List.get?Internal.eq_def]
      rw [show M4.get?Internal pr = _ from hpr4]
      refine chk_iff.2 ⟨by rfl, ?_⟩
      refine ⟨⟨hsc⟩, j + 1, els ++ [.agg [.int .i64 i', .int .i64 k', .str s', kid]], rfl, by rw [List.take_of_length_le (Nat.le_of_eq hel)], Nat.le_of_eq hel.symm, by show (j + 1) * 56 ≤ _; omega, by omega, ?_⟩
      refine ⟨by rw [hM5]; rfl, ?_⟩
      rw [show (some (AO.box 4 (.agg [.int .i64 0, .int .i64 0, .str ⟨#[]⟩, .nils])) :: some (AO.box 4 (.agg [.int .i64 i, .int .i64 k, .str s, .row (pr + 2) 4 0 j])) :: M4).length = n4 from hn4.symm]
      ((try cbv) <;> (repeat ((with_reducible refine EW.of ?_); cbv)))
      refine ⟨⟨ks.length - (j + 1), ⟨40, [(23, .int .i64 ((j + 1 : Nat) : Int)), (22, .int .i64 (A.len (E.tree.l ks))), (3, .ref 1 4 0 0), (2, .ref 0 4 0 0), (0, .imm [.int .i64 i, .int .i64 k, .str s, .sl 4 (E.tree.l ks)])]⟩, _, by omega, VS.pick rfl (.cons ?_ (.cons (Sub.refl _) (.cons (Sub.refl _) (.cons (Sub.refl _) (.cons (Sub.refl _) .nil))))), ?_⟩⟩
      · show Tw.Sub (.int .i64 (A.op .add .i64 (j : Int) 1)) _
        rw [hj1]
        exact Sub.refl _
      · rw [hJ]
        exact ⟨j + 1, rfl, h, rfl, by rw [hnx, hM5]⟩
  · have h : ks.length ≤ j := lt_nf h rfl hlk
    have hjk : ks.length = j := by omega
    rw [hjk, ← hx] at hLf hds
    dsimp only at hLf hds
    rcases hr with ⟨hj0, rfl⟩ | ⟨pr, ds, rfl, hpr2, hpr, hds2, htr, hnd, h2f⟩
    · have hres : R (.ret dc) Lf := by rw [hR]; exact ⟨rfl, rfl⟩
      ((try cbv) <;> (repeat ((with_reducible refine EW.of ?_); cbv)))
      rw [hLf] at hres
      exact ⟨dc, _, VSV.sub hds, hres⟩
    · have hres : R (.ret dc) Lf := by rw [hR]; exact ⟨rfl, rfl⟩
      ((try cbv) <;> (repeat ((with_reducible refine EW.of ?_); cbv)))
      rw [hLf] at hres
      exact ⟨dc, _, VSV.sub hds, hres⟩
end Go.Proofs.Ytaieiigfheabfaa

/-! step.count, step.small. -/
namespace Go.Proofs.Ytaieiigfheabfaa
open Go.Proofs.Ytaieiigfheabfaa.Tw
mutual
def cntT (c : Nat) : Tree → Nat × Bool
  | .node _ _ _ ks => if 2000 < c + 1 then (c + 1, false) else cntK (c + 1) ks
def cntK (c : Nat) : List Tree → Nat × Bool
  | [] => (c, true)
  | t :: ts => if (cntT c t).2 = true then cntK (cntT c t).1 ts else ((cntT c t).1, false)
end
def smallT (t : Tree) : Bool := (cntT 0 t).2
mutual
def sizeT : Tree → Nat
  | .node _ _ _ ks => sizeK ks + 1
def sizeK : List Tree → Nat
  | [] => 0
  | t :: ts => sizeT t + sizeK ts
end
mutual
theorem cntT_eq : ∀ (t : Tree) (c : Nat), (c + sizeT t ≤ 2000 → cntT c t = (c + sizeT t, true)) ∧ (2000 < c + sizeT t → (cntT c t).2 = false)
  | .node i k s ks, c => by
    have h := cntK_eq ks (c + 1)
    rw [cntT, sizeT]
    by_cases h1 : 2000 < c + 1
    · rw [if_pos h1]
      exact ⟨fun h => by omega, fun _ => rfl⟩
    · rw [if_neg h1]
      exact ⟨fun h2 => by rw [h.1 (by omega) (by omega)]; congr 1; omega, fun h2 => h.2 (by omega) (by omega)⟩
theorem cntK_eq : ∀ (ts : List Tree) (c : Nat), (c ≤ 2000 → c + sizeK ts ≤ 2000 → cntK c ts = (c + sizeK ts, true)) ∧ (c ≤ 2000 → 2000 < c + sizeK ts → (cntK c ts).2 = false)
  | [], c => ⟨fun _ _ => rfl, fun h1 h2 => by simp only [sizeK] at h2; omega⟩
  | t :: ts, c => by
    have h1 := cntT_eq t c
    rw [cntK, sizeK]
    by_cases h : c + sizeT t ≤ 2000
    · have h2 := cntK_eq ts (c + sizeT t)
      rw [h1.1 h]
      refine ⟨fun _ h3 => ?_, fun _ h3 => ?_⟩
      · show cntK (c + sizeT t) ts = _
        rw [h2.1 h (by omega)]
        congr 1
        omega
      · exact h2.2 h (by omega)
    · have h3 := h1.2 (by omega)
      rw [if_neg (by rw [h3]; simp)]
      exact ⟨fun _ h4 => by omega, fun _ _ => rfl⟩
end
theorem smallT_eq (t : Tree) : smallT t = decide (sizeT t ≤ 2000) := by
  unfold smallT
  obtain ⟨h1, h2⟩ := cntT_eq t 0
  by_cases h : sizeT t ≤ 2000
  · rw [h1 (by omega), decide_eq_true h]
  · rw [h2 (by omega), decide_eq_false h]
theorem cntT_le {t : Tree} {c : Nat} (h : (cntT c t).2 = true) : (cntT c t).1 ≤ 2000 := by
  obtain ⟨h1, h2⟩ := cntT_eq t c
  by_cases hc : c + sizeT t ≤ 2000
  · rw [h1 hc]; exact hc
  · rw [h2 (by omega)] at h; cases h
/-- Behind j kids: none of them was too many. -/
theorem cntK_drop {ks : List Tree} {j c : Nat} {t : Tree} (h : ks[j]? = some t) : cntK c (ks.drop j) = if (cntT c t).2 = true then cntK (cntT c t).1 (ks.drop (j + 1)) else ((cntT c t).1, false) := by
  rw [List.drop_eq_getElem?_toList_append, h]
  rfl
set_option maxHeartbeats 2000000 in
theorem count55 (A : Ar) (E : Em) {P : Program} (hP : P = Try.prog) : ∀ (n : Nat) (t : Tree), within n t → ∀ (c : Nat), c ≤ 2000 → TC1 P 55 [.imm (tcells E t), .ref 0 1 0 0] [some (.box 1 (.int .i64 c))] (.bool (cntT c t).2) [some (.box 1 (.int .i64 ((cntT c t).1 : Nat)))] := by
  intro n
  induction n with
  | zero => exact fun _ h => h.elim
  | succ n ih =>
  intro t hw c hc
  obtain ⟨i, k, s, ks⟩ := t
  have hll := E.tree.len ks
  have hwl := hw.len'
  have hlk : A.len (E.tree.l ks) = (ks.length : Int) := by rw [A.ok_len, hll]
  have pc : Tw.Pur [.int .i64 i, .int .i64 k, .str s, .sl 4 (E.tree.l ks)] := Pur.mk (by (repeat (first | exact rfl | exact Emb.purL _ _ | assumption | apply pur_cons | apply pur_sl | apply pur_slt | apply pur_agg | apply pur_tup)))
  obtain ⟨c1, hc1⟩ : ∃ c1, c1 = c + 1 := ⟨_, rfl⟩
  have hinc : A.op .add .i64 (c : Int) 1 = (c1 : Int) := by rw [hc1]; exact inc_eq A (by omega)
  obtain ⟨rn, hrn⟩ : ∃ r : Nat, r = (cntT c (.node i k s ks)).1 := ⟨_, rfl⟩
  obtain ⟨rb, hrb⟩ : ∃ r, r = (cntT c (.node i k s ks)).2 := ⟨_, rfl⟩
  rw [← hrn, ← hrb]
  rw [cntT, ← hc1] at hrn hrb
  unfold tcells
  refine TC1.of A _ _ T0 (T0_ok hP) (hP ▸ Try.func55) rfl _ rfl (by simp) ?_
  cbv
  ((try cbv) <;> (repeat ((with_reducible refine EW.of ?_); cbv)))
  refine bsplit (fun h => ?_) (fun h => ?_)
  · have h : 2000 < c1 := lt_nt (i := 2000) h rfl hinc
    rw [if_pos h] at hrn hrb
    dsimp only at hrn hrb
    subst hrn hrb
    ((try cbv) <;> (repeat ((with_reducible refine EW.of ?_); cbv)))
    refine R1.of ?_
    cbv
    exact ⟨hinc, trivial⟩
  have h : c1 ≤ 2000 := lt_nf (i := 2000) h rfl hinc
  rw [if_neg (by omega)] at hrn hrb
  ((try cbv) <;> (repeat ((with_reducible refine EW.of ?_); cbv)))
  obtain ⟨S, hS⟩ : ∃ S : LI (Nat × Nat), S = ⟨fun x => [(20, .int .i64 x.1), (19, .int .i64 (A.len (E.tree.l ks))), (4, .bool false), (0, .imm [.int .i64 i, .int .i64 k, .str s, .sl 4 (E.tree.l ks)]), (1, .ref 0 1 0 0)], fun x => [some (.box 1 (.int .i64 x.2))], fun x => x.1 ≤ ks.length ∧ x.2 ≤ 2000 ∧ cntK c1 ks = cntK x.2 (ks.drop x.1), fun x => ks.length - x.1⟩ := ⟨_, rfl⟩
  refine TW.loopM A (T0_ok hP) S _ rfl (0, c1) ?_ ?_ ?_
  · rw [hS]; exact ⟨Nat.zero_le _, h, rfl⟩
  · rw [hS]; cbv
    (repeat (first | exact trivial | refine And.intro (Emb.Pur _ _) ?_ | refine And.intro rfl ?_ | refine And.intro pc ?_ | refine And.intro hinc ?_))
  rintro ⟨j, c2⟩ hj l1 L1 e1 e2
  rw [hS] at hj e1 e2
  dsimp only at hj e1 e2
  obtain ⟨hj, hc2, hinv⟩ := hj
  subst e1 e2
  cbv
  ((try cbv) <;> (repeat ((with_reducible refine EW.of ?_); cbv)))
  refine bsplit (fun h2 => ?_) (fun h2 => ?_)
  · have h2 : j < ks.length := lt_nt h2 rfl hlk
    obtain ⟨t', ht'⟩ : ∃ t', ks[j]? = some t' := ⟨_, List.getElem?_eq_getElem h2⟩
    have hcall := ih t' (hw.2 t' (List.mem_of_getElem? ht')) c2 hc2
    have hle := @cntT_le t' c2
    rw [cntK_drop ht'] at hinv
    obtain ⟨n3, hn3⟩ : ∃ r : Nat, r = (cntT c2 t').1 := ⟨_, rfl⟩
    obtain ⟨b3, hb3⟩ : ∃ r, r = (cntT c2 t').2 := ⟨_, rfl⟩
    rw [← hn3, ← hb3] at hcall hle hinv
    have hgt := E.tree.get ht'
    obtain ⟨i', k', s', ks'⟩ := t'
    rw [E.node] at hgt
    unfold tcells at hcall
    have pc' : Tw.Pur [.int .i64 i', .int .i64 k', .str s', .sl 4 (E.tree.l ks')] := Pur.mk (by (repeat (first | exact rfl | exact Emb.purL _ _ | assumption | apply pur_cons | apply pur_sl | apply pur_slt | apply pur_agg | apply pur_tup)))
    ((try cbv) <;> (repeat ((with_reducible refine EW.of ?_); cbv)))
    refine ⟨j, _, rfl, hgt, ?_⟩
    cbv
    refine ⟨Ent.of (hP ▸ Try.func55) rfl, ?_⟩
    refine TC1.call [0] hcall ?_
    cbv
    (repeat (first | exact trivial | refine And.intro (Emb.Pur _ _) ?_ | refine And.intro rfl ?_ | refine And.intro pc' ?_))
    cases b3 with
    | true =>
      rw [if_pos rfl] at hinv
      ((try cbv) <;> (repeat ((with_reducible refine EW.of ?_); cbv)))
      refine LM.of (j + 1, n3) rfl ?_ ?_ ?_
      · rw [hS]; exact ⟨h2, hle rfl, hinv⟩
      · rw [hS]; show ks.length - (j + 1) < ks.length - j; omega
      · rw [hS]; cbv
        (repeat (first | exact trivial | refine And.intro (Emb.Pur _ _) ?_ | refine And.intro rfl ?_ | refine And.intro pc ?_ | refine And.intro (inc_eq A (by omega)) ?_))
    | false =>
      rw [if_neg (by simp)] at hinv
      rw [hinv] at hrn hrb
      dsimp only at hrn hrb
      subst hrn hrb
      ((try cbv) <;> (repeat ((with_reducible refine EW.of ?_); cbv)))
      refine R1.of ?_
      cbv
      (repeat (first | exact trivial | refine And.intro (Emb.Pur _ _) ?_ | refine And.intro rfl ?_ | refine And.intro (Pur.mk rfl) ?_ | refine And.intro (Pur.mk (by assumption)) ?_))
  · have h2 : ks.length ≤ j := lt_nf h2 rfl hlk
    rw [List.drop_eq_nil_of_le h2, cntK] at hinv
    rw [hinv] at hrn hrb
    dsimp only at hrn hrb
    subst hrn hrb
    ((try cbv) <;> (repeat ((with_reducible refine EW.of ?_); cbv)))
    refine R1.of ?_
    cbv
    (repeat (first | exact trivial | refine And.intro (Emb.Pur _ _) ?_ | refine And.intro rfl ?_ | refine And.intro (Pur.mk rfl) ?_ | refine And.intro (Pur.mk (by assumption)) ?_))
theorem small35 (A : Ar) (E : Em) {P : Program} (hP : P = Try.prog) (n : Nat) (t : Tree) (hw : within n t) : TPure P 35 [.imm (tcells E t)] (.bool (smallT t)) := by
  have hc := count55 A E hP n t hw 0 (by decide)
  unfold smallT
  generalize (cntT 0 t).1 = rn at hc
  generalize (cntT 0 t).2 = rb at hc ⊢
  obtain ⟨i, k, s, ks⟩ := t
  unfold tcells at hc ⊢
  have pc : Tw.Pur [.int .i64 i, .int .i64 k, .str s, .sl 4 (E.tree.l ks)] := Pur.mk (by (repeat (first | exact rfl | exact Emb.purL _ _ | assumption | apply pur_cons | apply pur_sl | apply pur_slt | apply pur_agg | apply pur_tup)))
  refine TPure.ofE A T0 (T0_ok hP) (hP ▸ Try.func35) rfl _ rfl (by simp) ?_
  cbv
  ((try cbv) <;> (repeat ((with_reducible refine EW.of ?_); cbv)))
  refine ⟨Ent.of (hP ▸ Try.func55) rfl, ?_⟩
  refine TC1.call [0] hc ?_
  cbv
  (repeat (first | exact trivial | refine And.intro (Emb.Pur _ _) ?_ | refine And.intro rfl ?_ | refine And.intro pc ?_))
  ((try cbv) <;> (repeat ((with_reducible refine EW.of ?_); cbv)))
end Go.Proofs.Ytaieiigfheabfaa

/-! step.find. -/
namespace Go.Proofs.Ytaieiigfheabfaa
open Go.Proofs.Ytaieiigfheabfaa.Tw
mutual
def findD (id : Int) (me : AV) : DT → Option (AV × DT)
  | .node i k s o ks => if i = id then some (me, .node i k s o ks) else findDs id (o.getD 0) 0 ks
def findDs (id : Int) (p j : Nat) : List DT → Option (AV × DT)
  | [] => none
  | d :: ds => match findD id (.ref p 4 j 0) d with
    | some r => some r
    | none => findDs id p (j + 1) ds
end
def ptrAV : Option (AV × DT) → AV
  | some (a, _) => a
  | none => .nil
mutual
theorem findD_ref (id : Int) (me : AV) : ∀ (d : DT) (r : AV × DT), findD id me d = some r → r.1 = me ∨ ∃ p j, r.1 = .ref p 4 j 0
  | .node i k s o ks, r, h => by
    rw [findD] at h
    by_cases hi : i = id
    · rw [if_pos hi] at h; cases h; exact .inl rfl
    · rw [if_neg hi] at h; exact .inr (findDs_ref id _ 0 ks r h)
theorem findDs_ref (id : Int) (p j : Nat) : ∀ (ks : List DT) (r : AV × DT), findDs id p j ks = some r → ∃ p j, r.1 = .ref p 4 j 0
  | [], r, h => by rw [findDs] at h; cases h
  | d :: ds, r, h => by
    rw [findDs] at h
    cases hd : findD id (.ref p 4 j 0) d with
    | some x =>
      rw [hd] at h
      cases h
      rcases findD_ref id _ d _ hd with h1 | h1
      · exact ⟨_, _, h1⟩
      · exact h1
    | none =>
      rw [hd] at h
      exact findDs_ref id p (j + 1) ds r h
end
theorem findDs_drop {id : Int} {p j : Nat} {ks : List DT} {d : DT} (h : ks[j]? = some d) : findDs id p j (ks.drop j) = match findD id (.ref p 4 j 0) d with | some r => some r | none => findDs id p (j + 1) (ks.drop (j + 1)) := by
  rw [List.drop_eq_getElem?_toList_append, h]
  rfl
def PtrOk (L : Store) (ptr : AV) (d : DT) : Prop := (∃ q ix els, ptr = .ref q 4 ix 0 ∧ L[q]? = some (some (.arr 4 els)) ∧ els[ix]? = some d.cell) ∨ ∃ q, ptr = .ref q 4 0 0 ∧ L[q]? = some (some (.box 4 d.cell))
set_option maxHeartbeats 2000000 in
theorem find51 (A : Ar) (E : Em) {P : Program} (hP : P = Try.prog) (id : Int) : ∀ (m : Nat) (d : DT) (L : Store) (ptr : AV), within m d.tree → d.ok L → PtrOk L ptr d → TC P 51 [ptr, .int .i64 id] L (fun x L' => x = .ret (ptrAV (findD id ptr d)) ∧ L' = L) := by
  intro m
  induction m with
  | zero => exact fun _ _ _ h => h.elim
  | succ m ih =>
  intro d L ptr hw hd hptr
  obtain ⟨i, k, x, o, ks⟩ := d
  have hwl := hw.1
  rw [treesD_len] at hwl
  obtain ⟨nk, hnk⟩ : ∃ n, n = ks.length := ⟨_, rfl⟩
  refine TC.of_ewp A T0 (T0_ok hP) (hP ▸ Try.func51) rfl _ rfl (by simp) ?_
  obtain ⟨rv, hrv⟩ : ∃ r, r = ptrAV (findD id ptr (.node i k x o ks)) := ⟨_, rfl⟩
  rw [← hrv]
  obtain ⟨R, hR⟩ : ∃ R : AEnd → Store → Prop, R = fun x L' => x = .ret rv ∧ L' = L := ⟨_, rfl⟩
  rw [← hR]
  have hno : ∀ q ix, ptr = .ref q 4 ix 0 → i ≠ id → rv = ptrAV (findDs id (o.getD 0) 0 ks) := fun q ix _ h => by rw [hrv, findD, if_neg h]
  have hyes : i = id → rv = ptr := fun h => by rw [hrv, findD, if_pos h]; rfl
  rcases hptr with ⟨q, ix, els, rfl, hq, hx⟩ | ⟨q, rfl, hq⟩
  · cases o with
    | none =>
      have hks : ks = [] := hd.1
      have hnk0 : nk = 0 := by rw [hnk, hks]; rfl
      replace hx : els[ix]? = some (.agg [.int .i64 i, .int .i64 k, .str x, .sl 4 []]) := hx
      have hNN : A.len [] = (nk : Int) := by rw [A.ok_len, hnk0]; rfl
      cbv
      ((try cbv) <;> (repeat ((with_reducible refine EW.of ?_); cbv)))
      simp only [← List.get?Internal.eq_def]
      rw [show L.get?Internal q = _ from hq]
      cbv
      (first | refine ⟨_, hx, ?_⟩ | skip)
      cbv
      ((try cbv) <;> (repeat ((with_reducible refine EW.of ?_); cbv)))
      refine bsplit (fun h => ?_) (fun h => ?_)
      · have h : i = id := eq_t h rfl rfl
        have hres : R (.ret (.ref q 4 ix 0)) L := by rw [hR]; exact ⟨by rw [hyes h], rfl⟩
        ((try cbv) <;> (repeat ((with_reducible refine EW.of ?_); cbv)))
        exact ⟨_, L, VSV.refl _ _ _, hres⟩
      have h : i ≠ id := eq_f h rfl rfl
      have hno := hno q ix rfl h
      ((try cbv) <;> (repeat ((with_reducible refine EW.of ?_); cbv)))
      simp only [← List.get?Internal.eq_def]
      rw [show L.get?Internal q = _ from hq]
      cbv
      (first | refine ⟨_, hx, ?_⟩ | skip)
      cbv
      ((try cbv) <;> (repeat ((with_reducible refine EW.of ?_); cbv)))
      obtain ⟨J, hJ⟩ : ∃ J : Nat → AFr → Store → Prop, J = fun c fr L' => L' = L ∧ ∃ j, c = nk - j ∧ j ≤ nk ∧ fr = ⟨34, [(19, .int .i64 j), (18, .int .i64 (A.len [])), (4, .nil), (0, .ref q 4 ix 0), (1, .int .i64 id)]⟩ ∧ rv = ptrAV (findDs id 0 j (ks.drop j)) := ⟨_, rfl⟩
      refine TW.loopE A (T0_ok hP) J (n0 := nk) (fr0 := ⟨34, [(19, .int .i64 0), (18, .int .i64 (A.len [])), (4, .nil), (0, .ref q 4 ix 0), (1, .int .i64 id)]⟩) (L0 := L)
        (VS.pick rfl (.cons (Sub.refl _) (.cons (Sub.refl _) (.cons (Sub.refl _) (.cons (Sub.refl _) (.cons (Sub.refl _) .nil))))))
        (by rw [hJ]; exact ⟨rfl, 0, rfl, Nat.zero_le _, rfl, hno⟩) ?_
      intro c fr L' hj
      rw [hJ] at hj
      obtain ⟨rfl, j, hc, hj, rfl, hinv⟩ := hj
      cbv
      ((try cbv) <;> (repeat ((with_reducible refine EW.of ?_); cbv)))
      refine bsplit (fun h2 => ?_) (fun h2 => ?_)
      · have h2 : j < nk := lt_nt h2 rfl hNN
        omega
      · have h2 : nk ≤ j := lt_nf h2 rfl hNN
        rw [List.drop_eq_nil_of_le (by omega), findDs] at hinv
        have hres : R (.ret .nil) L' := by rw [hR]; exact ⟨by rw [hinv]; rfl, rfl⟩
        ((try cbv) <;> (repeat ((with_reducible refine EW.of ?_); cbv)))
        exact ⟨_, L', VSV.refl _ _ _, hres⟩
    | some p =>
      replace hx : els[ix]? = some (.agg [.int .i64 i, .int .i64 k, .str x, .row p 4 0 nk]) := by rw [hx, hnk]; rfl
      have hNN : A.nat nk = (nk : Int) := A.ok_nat nk
      cbv
      ((try cbv) <;> (repeat ((with_reducible refine EW.of ?_); cbv)))
      simp only [← List.get?Internal.eq_def]
      rw [show L.get?Internal q = _ from hq]
      cbv
      (first | refine ⟨_, hx, ?_⟩ | skip)
      cbv
      ((try cbv) <;> (repeat ((with_reducible refine EW.of ?_); cbv)))
      refine bsplit (fun h => ?_) (fun h => ?_)
      · have h : i = id := eq_t h rfl rfl
        have hres : R (.ret (.ref q 4 ix 0)) L := by rw [hR]; exact ⟨by rw [hyes h], rfl⟩
        ((try cbv) <;> (repeat ((with_reducible refine EW.of ?_); cbv)))
        exact ⟨_, L, VSV.refl _ _ _, hres⟩
      have h : i ≠ id := eq_f h rfl rfl
      have hno := hno q ix rfl h
      ((try cbv) <;> (repeat ((with_reducible refine EW.of ?_); cbv)))
      simp only [← List.get?Internal.eq_def]
      rw [show L.get?Internal q = _ from hq]
      cbv
      (first | refine ⟨_, hx, ?_⟩ | skip)
      cbv
      ((try cbv) <;> (repeat ((with_reducible refine EW.of ?_); cbv)))
      obtain ⟨J, hJ⟩ : ∃ J : Nat → AFr → Store → Prop, J = fun c fr L' => L' = L ∧ ∃ j, c = nk - j ∧ j ≤ nk ∧ fr = ⟨34, [(19, .int .i64 j), (18, .int .i64 (A.nat nk)), (4, .nil), (0, .ref q 4 ix 0), (1, .int .i64 id)]⟩ ∧ rv = ptrAV (findDs id p j (ks.drop j)) := ⟨_, rfl⟩
      refine TW.loopE A (T0_ok hP) J (n0 := nk) (fr0 := ⟨34, [(19, .int .i64 0), (18, .int .i64 (A.nat nk)), (4, .nil), (0, .ref q 4 ix 0), (1, .int .i64 id)]⟩) (L0 := L)
        (VS.pick rfl (.cons (Sub.refl _) (.cons (Sub.refl _) (.cons (Sub.refl _) (.cons (Sub.refl _) (.cons (Sub.refl _) .nil))))))
        (by rw [hJ]; exact ⟨rfl, 0, rfl, Nat.zero_le _, rfl, hno⟩) ?_
      intro c fr L' hj
      rw [hJ] at hj
      obtain ⟨rfl, j, hc, hj, rfl, hinv⟩ := hj
      cbv
      ((try cbv) <;> (repeat ((with_reducible refine EW.of ?_); cbv)))
      refine bsplit (fun h2 => ?_) (fun h2 => ?_)
      · have h2 : j < nk := lt_nt h2 rfl hNN
        obtain ⟨dj, hdj⟩ : ∃ d, ks[j]? = some d := ⟨_, List.getElem?_eq_getElem (by omega)⟩
        have hwj : within m dj.tree := hw.2 _ (by rw [treesD_map]; exact List.mem_map.2 ⟨dj, List.mem_of_getElem? hdj, rfl⟩)
        have hcall := ih dj L' (.ref p 4 j 0) hwj (oks_mem (List.mem_of_getElem? hdj) hd.2) (.inl ⟨p, j, _, rfl, hd.1, by rw [List.getElem?_map, hdj]; rfl⟩)
        rw [findDs_drop hdj] at hinv
        obtain ⟨fr, hfr⟩ : ∃ r, r = findD id (.ref p 4 j 0) dj := ⟨_, rfl⟩
        rw [← hfr] at hcall hinv
        have hj1 : A.op .add .i64 (j : Int) 1 = ((j + 1 : Nat) : Int) := inc_eq A (by omega)
        ((try cbv) <;> (repeat ((with_reducible refine EW.of ?_); cbv)))
        simp only [← List.get?Internal.eq_def]
        rw [show L'.get?Internal q = _ from hq]
        cbv
        (first | refine ⟨_, hx, ?_⟩ | skip)
        cbv
        refine ⟨j, rfl, by omega, ?_⟩
        rw [Nat.zero_add]
        cbv
        refine byes (bleM _ _ (Nat.le_refl _)) ?_
        refine ⟨Ent.of (hP ▸ Try.func51) rfl, TC.mono hcall ?_⟩
        rintro y L2 ⟨rfl, rfl⟩
        cases fr with
        | some r =>
          obtain ⟨a, e⟩ := r
          obtain ⟨p2, j2, ha⟩ : ∃ p j, a = .ref p 4 j 0 := by
            rcases findD_ref id _ dj _ hfr.symm with h | h
            · exact ⟨_, _, h⟩
            · exact h
          subst ha
          have hres : R (.ret (.ref p2 4 j2 0)) L2 := by rw [hR]; exact ⟨by rw [hinv]; rfl, rfl⟩
          cbv
          ((try cbv) <;> (repeat ((with_reducible refine EW.of ?_); cbv)))
          exact ⟨_, L2, VSV.refl _ _ _, hres⟩
        | none =>
          cbv
          ((try cbv) <;> (repeat ((with_reducible refine EW.of ?_); cbv)))
          refine ⟨⟨nk - (j + 1), ⟨34, [(19, .int .i64 ((j + 1 : Nat) : Int)), (18, .int .i64 (A.nat nk)), (4, .nil), (0, .ref q 4 ix 0), (1, .int .i64 id)]⟩, L2, by omega, VS.pick rfl (.cons ?_ (.cons (Sub.refl _) (.cons (Sub.refl _) (.cons (Sub.refl _) (.cons (Sub.refl _) .nil))))), ?_⟩⟩
          · show Tw.Sub (.int .i64 (A.op .add .i64 (j : Int) 1)) _
            rw [hj1]
            exact Sub.refl _
          · rw [hJ]
            exact ⟨rfl, j + 1, rfl, by omega, rfl, hinv⟩
      · have h2 : nk ≤ j := lt_nf h2 rfl hNN
        rw [List.drop_eq_nil_of_le (by omega), findDs] at hinv
        have hres : R (.ret .nil) L' := by rw [hR]; exact ⟨by rw [hinv]; rfl, rfl⟩
        ((try cbv) <;> (repeat ((with_reducible refine EW.of ?_); cbv)))
        exact ⟨_, L', VSV.refl _ _ _, hres⟩
  · cases o with
    | none =>
      have hks : ks = [] := hd.1
      have hnk0 : nk = 0 := by rw [hnk, hks]; rfl
      replace hq : L[q]? = some (some (.box 4 (.agg [.int .i64 i, .int .i64 k, .str x, .sl 4 []]))) := hq
      have hNN : A.len [] = (nk : Int) := by rw [A.ok_len, hnk0]; rfl
      cbv
      ((try cbv) <;> (repeat ((with_reducible refine EW.of ?_); cbv)))
      simp only [← List.get?Internal.eq_def]
      rw [show L.get?Internal q = _ from hq]
      cbv
      (first | refine ⟨_, hx, ?_⟩ | skip)
      cbv
      ((try cbv) <;> (repeat ((with_reducible refine EW.of ?_); cbv)))
      refine bsplit (fun h => ?_) (fun h => ?_)
      · have h : i = id := eq_t h rfl rfl
        have hres : R (.ret (.ref q 4 0 0)) L := by rw [hR]; exact ⟨by rw [hyes h], rfl⟩
        ((try cbv) <;> (repeat ((with_reducible refine EW.of ?_); cbv)))
        exact ⟨_, L, VSV.refl _ _ _, hres⟩
      have h : i ≠ id := eq_f h rfl rfl
      have hno := hno q 0 rfl h
      ((try cbv) <;> (repeat ((with_reducible refine EW.of ?_); cbv)))
      simp only [← List.get?Internal.eq_def]
      rw [show L.get?Internal q = _ from hq]
      cbv
      (first | refine ⟨_, hx, ?_⟩ | skip)
      cbv
      ((try cbv) <;> (repeat ((with_reducible refine EW.of ?_); cbv)))
      obtain ⟨J, hJ⟩ : ∃ J : Nat → AFr → Store → Prop, J = fun c fr L' => L' = L ∧ ∃ j, c = nk - j ∧ j ≤ nk ∧ fr = ⟨34, [(19, .int .i64 j), (18, .int .i64 (A.len [])), (4, .nil), (0, .ref q 4 0 0), (1, .int .i64 id)]⟩ ∧ rv = ptrAV (findDs id 0 j (ks.drop j)) := ⟨_, rfl⟩
      refine TW.loopE A (T0_ok hP) J (n0 := nk) (fr0 := ⟨34, [(19, .int .i64 0), (18, .int .i64 (A.len [])), (4, .nil), (0, .ref q 4 0 0), (1, .int .i64 id)]⟩) (L0 := L)
        (VS.pick rfl (.cons (Sub.refl _) (.cons (Sub.refl _) (.cons (Sub.refl _) (.cons (Sub.refl _) (.cons (Sub.refl _) .nil))))))
        (by rw [hJ]; exact ⟨rfl, 0, rfl, Nat.zero_le _, rfl, hno⟩) ?_
      intro c fr L' hj
      rw [hJ] at hj
      obtain ⟨rfl, j, hc, hj, rfl, hinv⟩ := hj
      cbv
      ((try cbv) <;> (repeat ((with_reducible refine EW.of ?_); cbv)))
      refine bsplit (fun h2 => ?_) (fun h2 => ?_)
      · have h2 : j < nk := lt_nt h2 rfl hNN
        omega
      · have h2 : nk ≤ j := lt_nf h2 rfl hNN
        rw [List.drop_eq_nil_of_le (by omega), findDs] at hinv
        have hres : R (.ret .nil) L' := by rw [hR]; exact ⟨by rw [hinv]; rfl, rfl⟩
        ((try cbv) <;> (repeat ((with_reducible refine EW.of ?_); cbv)))
        exact ⟨_, L', VSV.refl _ _ _, hres⟩
    | some p =>
      replace hq : L[q]? = some (some (.box 4 (.agg [.int .i64 i, .int .i64 k, .str x, .row p 4 0 nk]))) := by rw [hq, hnk]; rfl
      have hNN : A.nat nk = (nk : Int) := A.ok_nat nk
      cbv
      ((try cbv) <;> (repeat ((with_reducible refine EW.of ?_); cbv)))
      simp only [← List.get?Internal.eq_def]
      rw [show L.get?Internal q = _ from hq]
      cbv
      (first | refine ⟨_, hx, ?_⟩ | skip)
      cbv
      ((try cbv) <;> (repeat ((with_reducible refine EW.of ?_); cbv)))
      refine bsplit (fun h => ?_) (fun h => ?_)
      · have h : i = id := eq_t h rfl rfl
        have hres : R (.ret (.ref q 4 0 0)) L := by rw [hR]; exact ⟨by rw [hyes h], rfl⟩
        ((try cbv) <;> (repeat ((with_reducible refine EW.of ?_); cbv)))
        exact ⟨_, L, VSV.refl _ _ _, hres⟩
      have h : i ≠ id := eq_f h rfl rfl
      have hno := hno q 0 rfl h
      ((try cbv) <;> (repeat ((with_reducible refine EW.of ?_); cbv)))
      simp only [← List.get?Internal.eq_def]
      rw [show L.get?Internal q = _ from hq]
      cbv
      (first | refine ⟨_, hx, ?_⟩ | skip)
      cbv
      ((try cbv) <;> (repeat ((with_reducible refine EW.of ?_); cbv)))
      obtain ⟨J, hJ⟩ : ∃ J : Nat → AFr → Store → Prop, J = fun c fr L' => L' = L ∧ ∃ j, c = nk - j ∧ j ≤ nk ∧ fr = ⟨34, [(19, .int .i64 j), (18, .int .i64 (A.nat nk)), (4, .nil), (0, .ref q 4 0 0), (1, .int .i64 id)]⟩ ∧ rv = ptrAV (findDs id p j (ks.drop j)) := ⟨_, rfl⟩
      refine TW.loopE A (T0_ok hP) J (n0 := nk) (fr0 := ⟨34, [(19, .int .i64 0), (18, .int .i64 (A.nat nk)), (4, .nil), (0, .ref q 4 0 0), (1, .int .i64 id)]⟩) (L0 := L)
        (VS.pick rfl (.cons (Sub.refl _) (.cons (Sub.refl _) (.cons (Sub.refl _) (.cons (Sub.refl _) (.cons (Sub.refl _) .nil))))))
        (by rw [hJ]; exact ⟨rfl, 0, rfl, Nat.zero_le _, rfl, hno⟩) ?_
      intro c fr L' hj
      rw [hJ] at hj
      obtain ⟨rfl, j, hc, hj, rfl, hinv⟩ := hj
      cbv
      ((try cbv) <;> (repeat ((with_reducible refine EW.of ?_); cbv)))
      refine bsplit (fun h2 => ?_) (fun h2 => ?_)
      · have h2 : j < nk := lt_nt h2 rfl hNN
        obtain ⟨dj, hdj⟩ : ∃ d, ks[j]? = some d := ⟨_, List.getElem?_eq_getElem (by omega)⟩
        have hwj : within m dj.tree := hw.2 _ (by rw [treesD_map]; exact List.mem_map.2 ⟨dj, List.mem_of_getElem? hdj, rfl⟩)
        have hcall := ih dj L' (.ref p 4 j 0) hwj (oks_mem (List.mem_of_getElem? hdj) hd.2) (.inl ⟨p, j, _, rfl, hd.1, by rw [List.getElem?_map, hdj]; rfl⟩)
        rw [findDs_drop hdj] at hinv
        obtain ⟨fr, hfr⟩ : ∃ r, r = findD id (.ref p 4 j 0) dj := ⟨_, rfl⟩
        rw [← hfr] at hcall hinv
        have hj1 : A.op .add .i64 (j : Int) 1 = ((j + 1 : Nat) : Int) := inc_eq A (by omega)
        ((try cbv) <;> (repeat ((with_reducible refine EW.of ?_); cbv)))
        simp only [← List.get?Internal.eq_def]
        rw [show L'.get?Internal q = _ from hq]
        cbv
        (first | refine ⟨_, hx, ?_⟩ | skip)
        cbv
        refine ⟨j, rfl, by omega, ?_⟩
        rw [Nat.zero_add]
        cbv
        refine byes (bleM _ _ (Nat.le_refl _)) ?_
        refine ⟨Ent.of (hP ▸ Try.func51) rfl, TC.mono hcall ?_⟩
        rintro y L2 ⟨rfl, rfl⟩
        cases fr with
        | some r =>
          obtain ⟨a, e⟩ := r
          obtain ⟨p2, j2, ha⟩ : ∃ p j, a = .ref p 4 j 0 := by
            rcases findD_ref id _ dj _ hfr.symm with h | h
            · exact ⟨_, _, h⟩
            · exact h
          subst ha
          have hres : R (.ret (.ref p2 4 j2 0)) L2 := by rw [hR]; exact ⟨by rw [hinv]; rfl, rfl⟩
          cbv
          ((try cbv) <;> (repeat ((with_reducible refine EW.of ?_); cbv)))
          exact ⟨_, L2, VSV.refl _ _ _, hres⟩
        | none =>
          cbv
          ((try cbv) <;> (repeat ((with_reducible refine EW.of ?_); cbv)))
          refine ⟨⟨nk - (j + 1), ⟨34, [(19, .int .i64 ((j + 1 : Nat) : Int)), (18, .int .i64 (A.nat nk)), (4, .nil), (0, .ref q 4 0 0), (1, .int .i64 id)]⟩, L2, by omega, VS.pick rfl (.cons ?_ (.cons (Sub.refl _) (.cons (Sub.refl _) (.cons (Sub.refl _) (.cons (Sub.refl _) .nil))))), ?_⟩⟩
          · show Tw.Sub (.int .i64 (A.op .add .i64 (j : Int) 1)) _
            rw [hj1]
            exact Sub.refl _
          · rw [hJ]
            exact ⟨rfl, j + 1, rfl, by omega, rfl, hinv⟩
      · have h2 : nk ≤ j := lt_nf h2 rfl hNN
        rw [List.drop_eq_nil_of_le (by omega), findDs] at hinv
        have hres : R (.ret .nil) L' := by rw [hR]; exact ⟨by rw [hinv]; rfl, rfl⟩
        ((try cbv) <;> (repeat ((with_reducible refine EW.of ?_); cbv)))
        exact ⟨_, L', VSV.refl _ _ _, hres⟩
end Go.Proofs.Ytaieiigfheabfaa
