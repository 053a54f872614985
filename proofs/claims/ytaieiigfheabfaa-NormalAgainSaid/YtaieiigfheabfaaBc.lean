import Derived.Test.YtaieiigfheabfaaLb
/-! Walk, Great. -/
namespace Go.Proofs.Ytaieiigfheabfaa
open Go.Proofs.Ytaieiigfheabfaa.Tw
set_option maxRecDepth 20000 in
theorem walk61n (A : Ar) {P : Program} (hP : P = Try.prog) (m : Nat) (hm : m ≤ 1000000) (hm1 : 1 ≤ m) (t : Tree) (hok : t.ok) :
    TC P 31 [.nils, t.av, .int .i64 1, .int .i64 m] [] (fun x L' => x = .ret (.row 0 5 0 (walkT m t [] 1).length) ∧ L' = [some (.arr 5 (spots (walkT m t [] 1)))]) := by
  obtain ⟨i, k, s, ks⟩ := t
  obtain ⟨l, hl0⟩ : ∃ l : List (Tree × Nat), l = [] := ⟨_, rfl⟩
  obtain ⟨d, hd0⟩ : ∃ d : Nat, d = 1 := ⟨_, rfl⟩
  have hl : l.length ≤ m := by rw [hl0]; exact Nat.zero_le _
  have hd : d ≤ l.length + 1 := by rw [hl0, hd0]; exact Nat.le_refl _
  obtain ⟨nl, hn⟩ : ∃ nl, l.length = nl := ⟨_, rfl⟩
  have hnl : nl = 0 := by rw [← hn, hl0]; rfl
  simp only [Tree.av]
  generalize hks : avs ks = aks
  rw [show (1 : Int) = ((d : Nat) : Int) from by rw [hd0]; rfl, show walkT m (Tree.node i k s ks) [] 1 = walkT m (Tree.node i k s ks) l d from by rw [hl0, hd0]]
  refine TC.of_ewp A T0 (T0_ok hP) (hP ▸ Try.func31) rfl _ rfl (by simp) ?_
  generalize hR : (fun (x : AEnd) (L' : Store) => x = AEnd.ret (.row 0 5 0 (walkT m (Tree.node i k s ks) l d).length) ∧ L' = [some (.arr 5 (spots (walkT m (Tree.node i k s ks) l d)))]) = R
  cbv
  ((try cbv) <;> (repeat ((with_reducible refine EW.of ?_); cbv)))
  refine bsplit (fun h => ?_) (fun h => ?_)
  · have h : (m : Int) ≤ 0 := le_t h rfl rfl
    omega
  · ((try cbv) <;> (repeat ((with_reducible refine EW.of ?_); cbv)))
    refine ⟨⟨rfl⟩, nl + 1, spots (l ++ [(.node i k s ks, d)]), by rw [hnl]; rfl, by rw [hl0]; simp [spots, ← hks, spot], by simp, by omega, by omega, ?_⟩
    have h : nl < m := by omega
    have ih := fun (t : Tree) (hok : t.ok) => walk61 A hP m hm (SizeOf.sizeOf t) t (Nat.le_refl _) hok
    generalize hsp1 : spots (l ++ [(.node i k s ks, d)]) = sp1
    ((try cbv) <;> (repeat ((with_reducible refine EW.of ?_); cbv)))
    obtain ⟨J, hJ⟩ : ∃ J : Nat → AFr → Store → Prop, J = fun c fr L => ∃ j : Nat, c = ks.length - j ∧ j ≤ ks.length ∧ ∃ l' : List (Tree × Nat), l' = walkK m (ks.take j) (l ++ [(.node i k s ks, d)]) (d + 1) ∧
      fr = ⟨39, [(9, .int .i64 j), (0, .row 1 5 0 l'.length), (5, .ref 0 4 0 0), (2, .int .i64 d), (3, .int .i64 m)]⟩ ∧ L = [some (.box 4 (.agg [.int .i64 i, .int .i64 k, .str s, .sl 4 aks])), some (.arr 5 (spots l'))] := ⟨_, rfl⟩
    refine TW.loopE A (T0_ok hP) J (n0 := ks.length)
      (fr0 := ⟨39, [(9, .int .i64 0), (0, .row 1 5 0 (nl + 1)), (5, .ref 0 4 0 0), (2, .int .i64 d), (3, .int .i64 m)]⟩) (L0 := [some (.box 4 (.agg [.int .i64 i, .int .i64 k, .str s, .sl 4 aks])), some (.arr 5 sp1)])
      (VS.pick rfl (.cons (Sub.refl _) (.cons (Sub.refl _) (.cons (Sub.refl _) (.cons (Sub.refl _) (.cons (Sub.refl _) .nil)))))) (by rw [hJ]; exact ⟨0, rfl, by omega, _, rfl, by simp [walkK, hn], by simp [walkK, hsp1]⟩) ?_
    intro c fr L hj
    rw [hJ] at hj
    obtain ⟨j, hc, hj, l', hl', rfl, rfl⟩ := hj
    generalize hsp' : spots l' = sp'
    generalize hn' : l'.length = nl'
    cbv
    ((try cbv) <;> (repeat ((with_reducible refine EW.of ?_); cbv)))
    refine bsplit (fun h => ?_) (fun h => ?_)
    · have h : j < aks.length := lt_nt h rfl (A.ok_len _)
      have hjk : j < ks.length := by rw [← hks, avs_len] at h; exact h
      obtain ⟨t', ht'⟩ : ∃ t', ks[j]? = some t' := ⟨_, List.getElem?_eq_getElem hjk⟩
      have hmem : t' ∈ ks := List.mem_of_getElem? ht'
      have hl1 := walkK_len m (ks.take j) (l ++ [(.node i k s ks, d)]) (d + 1)
      simp at hl1
      rw [← hl'] at hl1
      have hrec := ih t' (hok.kid hmem) l' (d + 1) (hl1.2 (by omega)) (by omega)
      have hav := avs_get ht'
      rw [hks] at hav
      have hnext : walkT m t' l' (d + 1) = walkK m (ks.take (j + 1)) (l ++ [(.node i k s ks, d)]) (d + 1) := by
        rw [List.take_add_one, ht', walkK_app, ← hl']; rfl
      have hd1 : d + 1 < 9223372036854775807 := by omega
      obtain ⟨i', k', s', ks'⟩ := t'
      simp only [Tree.av] at hrec hav
      have hpk := avs_pur ks'
      generalize avs ks' = aks' at hrec hav hpk
      have hsp2 := spots_pur (walkT m (.node i' k' s' ks') l' (d + 1))
      have hsp0 := spots_pur l'
      rw [hnext] at hsp2 hrec
      generalize hl2 : walkK m (ks.take (j + 1)) (l ++ [(.node i k s ks, d)]) (d + 1) = l2 at hsp2 hrec
      rw [hn', hsp'] at hrec
      unfold walkR at hrec
      generalize hn2 : l2.length = n2 at hrec
      generalize hsq : spots l2 = sp2 at hrec hsp2
      have hlen := hok.len
      ((try cbv) <;> (repeat ((with_reducible refine EW.of ?_); cbv)))
      refine ⟨j, _, rfl, hav, ?_⟩
      cbv
      refine ⟨Ent.of (hP ▸ Try.func31) rfl, ?_⟩
      refine TC.row (q := 1) (n' := n2) (els' := sp2) hrec rfl (hsp' ▸ hsp0) hsp2 (.cons (.row (p := 0) 5 0 nl' rfl) (.cons (.pure (by simpa [AV.pur, purL] using hpk)) (.cons (.int (inc_eq A (by omega)).symm) (.cons (.pure rfl) .nil)))) ?_
      cbv
      ((try cbv) <;> (repeat ((with_reducible refine EW.of ?_); cbv)))
      refine ⟨ks.length - (j + 1), ⟨39, [(9, .int .i64 ((j + 1 : Nat) : Int)), (0, .row 1 5 0 n2), (5, .ref 0 4 0 0), (2, .int .i64 d), (3, .int .i64 m)]⟩, [some (.box 4 (.agg [.int .i64 i, .int .i64 k, .str s, .sl 4 aks])), some (.arr 5 (sp2))], by omega,
        VS.trans (VS.pick (l := [(9, .int .i64 ((j + 1 : Nat) : Int)), (0, .row 2 5 0 n2), (5, .ref 0 4 0 0), (2, .int .i64 d), (3, .int .i64 m)]) rfl (.cons (Sub.inc A (by omega)) (.cons (Sub.refl _) (.cons (Sub.refl _) (.cons (Sub.refl _) (.cons (Sub.refl _) .nil))))))
          (VS.settle (o := .arr 5 (sp2)) 2 1 rfl (by decide) (Nat.le_succ_of_le (Nat.le_succ 1)) rfl (uptoL_pur 1 _ hsp2) ?_ (.cons (.keep _ rfl) (.cons (.row 5 0 n2) (.cons (.keep _ rfl) (.cons (.keep _ rfl) (.cons (.keep _ rfl) .nil)))))), ?_⟩
      · have hpa := avs_pur ks
        rw [hks] at hpa
        have := uptoL_pur 1 _ hpa
        simp [oUpto, AO.upto, AV.upto, uptoL, this]
      · rw [hJ]; exact ⟨j + 1, rfl, by omega, l2, hl2.symm, by rw [hn2], by rw [hsq]⟩
    · have h : aks.length ≤ j := lt_nf h rfl (A.ok_len _)
      have hjk : j = ks.length := by rw [← hks, avs_len] at h; omega
      ((try cbv) <;> (repeat ((with_reducible refine EW.of ?_); cbv)))
      refine ⟨_, _, VSV.settle (o := .arr 5 sp') 1 0 (Nat.le_refl _) (Nat.zero_le _) rfl (uptoL_pur 0 _ (hsp' ▸ spots_pur l')) rfl (.row 5 0 nl'), ?_⟩
      rw [hjk, List.take_length] at hl'
      rw [← hR, walkT, if_neg (by omega), ← hl']
      exact ⟨by rw [hn'], by rw [hsp']; rfl⟩

/-- The walk of a whole tree. -/
theorem Walk23 (A : Ar) {P : Program} (hP : P = Try.prog) (m : Nat) (hm : m ≤ 1000000) (hm1 : 1 ≤ m) (t : Tree) (hok : t.ok) : TPure P 15 [t.av, .int .i64 m] (.sl 5 (spots (walkT m t [] 1))) := by
  refine TPure.of (TC.of_ewp A T0 (T0_ok hP) (hP ▸ Try.func15) rfl _ rfl (by simp) ?_)
  have h61 := walk61n A hP m hm hm1 t hok
  have hp := spots_pur (walkT m t [] 1)
  have hl := spots_len (walkT m t [] 1)
  obtain ⟨i, k, s, ks⟩ := t
  simp only [Tree.av] at h61 ⊢
  have hpk := avs_pur ks
  generalize avs ks = aks at h61 hpk
  generalize (walkT m (Tree.node i k s ks) [] 1) = l at h61 hp hl
  generalize spots l = sp at h61 hp hl
  generalize l.length = n at h61 hl
  cbv
  ((try cbv) <;> (repeat ((with_reducible refine EW.of ?_); cbv)))
  refine ⟨Ent.of (hP ▸ Try.func31) rfl, ?_⟩
  refine TC.row0 (n' := n) (els' := sp) h61 hp (.cons (.pure rfl) (.cons (.pure (by simpa [AV.pur, purL] using hpk)) (.cons (.pure rfl) (.cons (.pure rfl) .nil)))) ?_
  cbv
  ((try cbv) <;> (repeat ((with_reducible refine EW.of ?_); cbv)))
  exact ⟨_, _, VSV.trans (VSV.freeze (v' := .sl 5 sp) (p := 1) (els := sp) rfl (.whole hl.symm)) (VSV.pure (by simpa [AV.pur] using hp)), rfl, rfl⟩
/-- Whether a tree is more than is asked of. -/
def great (t : Tree) : Bool := decide (2000 < (walkT 2001 t [] 1).length) || (walkT 2001 t [] 1).any fun x => decide (2000 < x.2)
end Go.Proofs.Ytaieiigfheabfaa
