import Derived.Test.YtpjibokaeefhiaaLe
/-! What is above, what is within; the small functions of place. -/
namespace Go.Proofs.Ytpjibokaeefhiaa
open Go.Proofs.Ytpjibokaeefhiaa.Tw
theorem Equal60 (A : Ar) {P : Program} (hP : P = Try.prog) (a b : List Int) (ha : a.length < 9223372036854775807) : TPure P 60 [.sl 1 (ints a), .sl 1 (ints b)] (.bool (a == b)) := by
  refine TPure.of (TC.of_ewp A T0 (T0_ok hP) (hP ▸ Try.func60) rfl _ rfl (by simp) ?_)
  generalize hia : ints a = ia
  generalize hib : ints b = ib
  have hla : ia.length = a.length := by rw [← hia, ints_len]
  have hlb : ib.length = b.length := by rw [← hib, ints_len]
  cbv
  ((try cbv) <;> (repeat ((with_reducible refine EW.of ?_); cbv)))
  refine bsplit (fun h => ?_) (fun h => ?_)
  · ((try cbv) <;> (repeat ((with_reducible refine EW.of ?_); cbv)))
    have h := ne_t h (A.ok_len _) (A.ok_len _)
    have hne : (a == b) = false := by
      simp only [beq_eq_false_iff_ne]
      rintro rfl
      apply h
      omega
    exact ⟨_, _, VSV.refl _ _ _, by rw [hne]; exact ⟨rfl, rfl⟩⟩
  · have h := ne_f h (A.ok_len _) (A.ok_len _)
    have hl : a.length = b.length := by omega
    ((try cbv) <;> (repeat ((with_reducible refine EW.of ?_); cbv)))
    obtain ⟨J, hJ⟩ : ∃ J : Nat → AFr → Store → Prop, J = fun c fr L => ∃ i : Nat, c = a.length - i ∧ i ≤ a.length ∧ a.take i = b.take i ∧ fr = ⟨26, [(13, .int .i64 i), (12, .int .i64 (A.len ia)), (0, .sl 1 ia), (1, .sl 1 ib)]⟩ ∧ L = [] := ⟨_, rfl⟩
    refine TW.loopE A (T0_ok hP) J (n0 := a.length) (fr0 := ⟨26, [(13, .int .i64 0), (12, .int .i64 (A.len ia)), (0, .sl 1 ia), (1, .sl 1 ib)]⟩) (L0 := [])
      (VS.pick rfl (.cons (Sub.refl _) (.cons (Sub.refl _) (.cons (Sub.refl _) (.cons (Sub.refl _) .nil))))) (by rw [hJ]; exact ⟨0, rfl, Nat.zero_le _, rfl, rfl, rfl⟩) ?_
    intro c fr L hj
    rw [hJ] at hj
    obtain ⟨i, hc, hi, ht, rfl, rfl⟩ := hj
    cbv
    ((try cbv) <;> (repeat ((with_reducible refine EW.of ?_); cbv)))
    refine bsplit (fun h => ?_) (fun h => ?_)
    · have h : i < ia.length := lt_nt h rfl (A.ok_len _)
      obtain ⟨x, hx⟩ : ∃ x, a[i]? = some x := ⟨_, List.getElem?_eq_getElem (by omega)⟩
      obtain ⟨y, hy⟩ : ∃ y, b[i]? = some y := ⟨_, List.getElem?_eq_getElem (by omega)⟩
      have hxa := ints_get hx
      have hyb := ints_get hy
      rw [hia] at hxa
      rw [hib] at hyb
      ((try cbv) <;> (repeat ((with_reducible refine EW.of ?_); cbv)))
      (refine TW.draw (A := A) (T0_ok hP) (hP ▸ follows_mixed) (by kernel_rfl) rfl ?_; cbv)
      refine ⟨i, _, rfl, hxa, ?_⟩
      cbv
      refine ⟨i, _, rfl, hyb, ?_⟩
      cbv
      ((try cbv) <;> (repeat ((with_reducible refine EW.of ?_); cbv)))
      refine bsplit (fun h2 => ?_) (fun h2 => ?_)
      · ((try cbv) <;> (repeat ((with_reducible refine EW.of ?_); cbv)))
        have h2 : x ≠ y := ne_t h2 rfl rfl
        refine ⟨_, _, VSV.refl _ _ _, ?_, rfl⟩
        have hne : (a == b) = false := by
          simp only [beq_eq_false_iff_ne]
          rintro rfl
          rw [hx] at hy
          exact h2 (Option.some.inj hy)
        rw [hne]
        rfl
      · ((try cbv) <;> (repeat ((with_reducible refine EW.of ?_); cbv)))
        have h2 : x = y := ne_f h2 rfl rfl
        refine ⟨a.length - (i + 1), ⟨26, [(13, .int .i64 ((i + 1 : Nat) : Int)), (12, .int .i64 (A.len ia)), (0, .sl 1 ia), (1, .sl 1 ib)]⟩, [], by omega, VS.pick rfl (.cons (Sub.inc A (by omega)) (.cons (Sub.refl _) (.cons (Sub.refl _) (.cons (Sub.refl _) .nil)))), ?_⟩
        rw [hJ]
        exact ⟨i + 1, rfl, by omega, by rw [List.take_add_one, List.take_add_one, ht, hx, hy, h2], rfl, rfl⟩
    · have h : ia.length ≤ i := lt_nf h rfl (A.ok_len _)
      ((try cbv) <;> (repeat ((with_reducible refine EW.of ?_); cbv)))
      refine ⟨_, _, VSV.refl _ _ _, ?_, rfl⟩
      have heq : a = b := by
        have h1 : a.length ≤ i := by omega
        have h2 : b.length ≤ i := by omega
        rw [List.take_of_length_le h1, List.take_of_length_le h2] at ht
        exact ht
      have : (a == b) = true := by simpa using heq
      rw [this]
      rfl
theorem at57 (A : Ar) {P : Program} (hP : P = Try.prog) (n : Nat) (t : Tree) (hw : within n t) (p : List Int) (hp : p.length < 9223372036854775807) : TPure P 57 [t.av, .sl 1 (ints p)] (atAV (atT t p)) := by
  refine TPure.of (TC.of_ewp A T0 (T0_ok hP) (hP ▸ Try.func57) rfl _ rfl (by simp) ?_)
  have hpi := ints_pur p
  have hli := ints_len p
  generalize hip : ints p = ip at hpi hli
  generalize hr : atT t p = r
  obtain ⟨i, k, s, ks⟩ := t
  simp only [Tree.av]
  have hpk := avs_pur ks
  have hlk := avs_len ks
  generalize hks : avs ks = aks at hpk hlk
  cbv
  ((try cbv) <;> (repeat ((with_reducible refine EW.of ?_); cbv)))
  obtain ⟨z, hz⟩ : ∃ z : AV, z = .agg [.int .i64 0, .int .i64 0, .str ⟨⟨[]⟩⟩, .nils] := ⟨_, rfl⟩
  rw [← hz]
  obtain ⟨J, hJ⟩ : ∃ J : Nat → AFr → Store → Prop, J = fun c fr L => ∃ j : Nat, c = p.length - j ∧ j ≤ p.length ∧ ∃ (n : Nat) (i k : Int) (s : ByteArray) (ks : List Tree), within n (.node i k s ks) ∧ atT (.node i k s ks) (p.drop j) = r ∧
      fr = ⟨31, [(10, .int .i64 j), (9, .int .i64 (A.len ip)), (8, .sl 1 ip), (4, .ref 1 4 0 0), (2, .ref 0 4 0 0)]⟩ ∧ L = [some (.box 4 (.agg [.int .i64 i, .int .i64 k, .str s, .sl 4 (avs ks)])), some (.box 4 z)] := ⟨_, rfl⟩
  refine TW.loopE A (T0_ok hP) J (n0 := p.length) (fr0 := ⟨31, [(10, .int .i64 0), (9, .int .i64 (A.len ip)), (8, .sl 1 ip), (4, .ref 1 4 0 0), (2, .ref 0 4 0 0)]⟩) (L0 := [some (.box 4 (.agg [.int .i64 i, .int .i64 k, .str s, .sl 4 aks])), some (.box 4 z)])
    (VS.pick rfl (.cons (Sub.refl _) (.cons (Sub.refl _) (.cons (Sub.refl _) (.cons (Sub.refl _) (.cons (Sub.refl _) .nil)))))) (by rw [hJ]; exact ⟨0, rfl, Nat.zero_le _, n, i, k, s, ks, hw, hr, rfl, by rw [hks]⟩) ?_
  intro c fr L hj
  rw [hJ] at hj
  obtain ⟨j, hc, hj, n', i', k', s', ks', hw', hinv, rfl, rfl⟩ := hj
  have hpk' := avs_pur ks'
  have hlk' := avs_len ks'
  have hwl := hw'.len
  generalize hks' : avs ks' = aks' at hpk' hlk'
  subst hz
  have zero : Tw.Sub (.tup [.agg [.int .i64 0, .int .i64 0, .str ⟨⟨[]⟩⟩, .nils], .bool false]) (atAV none) := Sub.tup2 (Sub.agg rfl fun j c d hc hd => by
    match j, hc, hd with
    | 0, hc, hd => cases hc; cases hd; exact Sub.refl _
    | 1, hc, hd => cases hc; cases hd; exact Sub.refl _
    | 2, hc, hd => cases hc; cases hd; exact Sub.refl _
    | 3, hc, hd => cases hc; cases hd; exact Sub.nils 4
    | j + 4, hc, hd => cases hc) (Sub.refl _)
  cbv
  ((try cbv) <;> (repeat ((with_reducible refine EW.of ?_); cbv)))
  refine bsplit (fun h => ?_) (fun h => ?_)
  · have h : j < ip.length := lt_nt h rfl (A.ok_len _)
    obtain ⟨x, hx⟩ : ∃ x, p[j]? = some x := ⟨_, List.getElem?_eq_getElem (by omega)⟩
    have hxa := ints_get hx
    rw [hip] at hxa
    have hd := List.drop_eq_getElem?_toList_append (l := p) (i := j)
    rw [hx] at hd
    simp only [Option.toList_some, List.singleton_append] at hd
    rw [hd] at hinv
    ((try cbv) <;> (repeat ((with_reducible refine EW.of ?_); cbv)))
    refine ⟨j, _, rfl, hxa, ?_⟩
    ((try cbv) <;> (repeat ((with_reducible refine EW.of ?_); cbv)))
    refine bsplit (fun h1 => ?_) (fun h1 => ?_)
    · have h1 : x < 0 := lt_t h1 rfl rfl
      ((try cbv) <;> (repeat ((with_reducible refine EW.of ?_); cbv)))
      simp only [atT, if_pos h1] at hinv
      subst hinv
      exact ⟨_, _, VSV.trans (VSV.sub zero) (VSV.pure rfl), rfl, rfl⟩
    · have h1 : 0 ≤ x := lt_f h1 rfl rfl
      obtain ⟨x', rfl⟩ := Int.eq_ofNat_of_zero_le h1
      have hnx : ¬ ((x' : Int) < 0) := by omega
      simp only [atT, if_neg hnx, Int.toNat_natCast] at hinv
      ((try cbv) <;> (repeat ((with_reducible refine EW.of ?_); cbv)))
      refine bsplit (fun h2 => ?_) (fun h2 => ?_)
      · have h2 : aks'.length ≤ x' := le_nt h2 (A.ok_len _) rfl
        ((try cbv) <;> (repeat ((with_reducible refine EW.of ?_); cbv)))
        have hnk : ks'[x']? = none := List.getElem?_eq_none (by omega)
        rw [hnk] at hinv
        subst hinv
        exact ⟨_, _, VSV.trans (VSV.sub zero) (VSV.pure rfl), rfl, rfl⟩
      · have h2 : x' < aks'.length := le_nf h2 (A.ok_len _) rfl
        obtain ⟨t2, ht2⟩ : ∃ t2, ks'[x']? = some t2 := ⟨_, List.getElem?_eq_getElem (by omega)⟩
        have hav2 := avs_get ht2
        rw [hks'] at hav2
        rw [ht2] at hinv
        have hw2 : ∃ n2, within n2 t2 := by
          cases n' with
          | zero => exact hw'.elim
          | succ n' => exact ⟨n', hw'.2 t2 (List.mem_of_getElem? ht2)⟩
        obtain ⟨n2, hw2⟩ := hw2
        obtain ⟨i2, k2, s2, ks2⟩ := t2
        simp only [Tree.av] at hav2
        generalize hks2 : avs ks2 = aks2 at hav2
        ((try cbv) <;> (repeat ((with_reducible refine EW.of ?_); cbv)))
        refine ⟨x', _, rfl, hav2, ?_⟩
        cbv
        ((try cbv) <;> (repeat ((with_reducible refine EW.of ?_); cbv)))
        refine ⟨p.length - (j + 1), ⟨31, [(10, .int .i64 ((j + 1 : Nat) : Int)), (9, .int .i64 (A.len ip)), (8, .sl 1 ip), (4, .ref 1 4 0 0), (2, .ref 0 4 0 0)]⟩, [some (.box 4 (.agg [.int .i64 i2, .int .i64 k2, .str s2, .sl 4 aks2])), some (.box 4 (.agg [.int .i64 0, .int .i64 0, .str ⟨⟨[]⟩⟩, .nils]))], by omega,
          VS.pick rfl (.cons (Sub.inc A (by omega)) (.cons (Sub.refl _) (.cons (Sub.refl _) (.cons (Sub.refl _) (.cons (Sub.refl _) .nil))))), ?_⟩
        rw [hJ]
        exact ⟨j + 1, rfl, by omega, n2, i2, k2, s2, ks2, hw2, hinv, rfl, by rw [hks2]⟩
  · have h : ip.length ≤ j := lt_nf h rfl (A.ok_len _)
    ((try cbv) <;> (repeat ((with_reducible refine EW.of ?_); cbv)))
    have hd : p.drop j = [] := List.drop_eq_nil_of_le (by omega)
    rw [hd] at hinv
    simp only [atT] at hinv
    subst hinv
    exact ⟨_, _, VSV.trans (VSV.sub (v' := atAV (some (.node i' k' s' ks'))) (Sub.eq (by simp only [atAV, Option.getD_some, Tree.av, Option.isSome_some, hks']; rfl))) (VSV.pure (by simp only [atAV, Option.getD_some, Option.isSome_some, AV.pur, purL, Tree.av_pur]; rfl)), rfl, rfl⟩
end Go.Proofs.Ytpjibokaeefhiaa
