import Derived.Test.YtpjibokaeefhiaaLc
/-! Paths, as the document tells them. -/
namespace Go.Proofs.Ytpjibokaeefhiaa
open Go.Proofs.Ytpjibokaeefhiaa.Tw
mutual
/-- The place of the first node of an id. -/
def pathT (id : Int) : Tree → Option (List Int)
  | .node i _ _ ks => if i = id then some [] else pathK id ks 0
def pathK (id : Int) : List Tree → Nat → Option (List Int)
  | [], _ => none
  | t :: ts, n => match pathT id t with
    | some p => some ((n : Int) :: p)
    | none => pathK id ts (n + 1)
end
/-- No deeper than n, and no row longer than a number can tell. -/
def within : Nat → Tree → Prop
  | 0, _ => False
  | n + 1, .node _ _ _ ks => ks.length ≤ 1000000 ∧ ∀ t ∈ ks, within n t
theorem within.len' {n : Nat} {i k : Int} {s : ByteArray} {ks : List Tree} (h : within n (.node i k s ks)) : ks.length ≤ 1000000 := by cases n with | zero => exact h.elim | succ n => exact h.1
theorem within.len {n : Nat} {i k : Int} {s : ByteArray} {ks : List Tree} (h : within n (.node i k s ks)) : ks.length < 9223372036854775807 := by have := h.len'; omega
theorem pathK_drop {id : Int} : ∀ {ks : List Tree} {j n : Nat} {t : Tree}, ks[j]? = some t → pathK id (ks.drop j) n = match pathT id t with | some p => some ((n : Int) :: p) | none => pathK id (ks.drop (j + 1)) (n + 1)
  | [], j, n, t, h => by simp at h
  | k :: ks, 0, n, t, h => by simp at h; subst h; simp [pathK]
  | k :: ks, j + 1, n, t, h => by simp only [List.drop_succ_cons]; exact pathK_drop (by simpa using h)
mutual
theorem pathT_len (id : Int) : ∀ (t : Tree) (n : Nat) (p : List Int), within n t → pathT id t = some p → p.length < n
  | .node i k s ks, 0, p, h, _ => h.elim
  | .node i k s ks, n + 1, p, h, hp => by
    simp only [pathT] at hp
    split at hp
    · cases hp; simp
    · exact pathK_len id ks n 0 p h.2 hp
theorem pathK_len (id : Int) : ∀ (ks : List Tree) (n j : Nat) (p : List Int), (∀ t ∈ ks, within n t) → pathK id ks j = some p → p.length < n + 1
  | [], n, j, p, _, hp => by simp [pathK] at hp
  | t :: ts, n, j, p, h, hp => by
    simp only [pathK] at hp
    split at hp
    · rename_i q hq
      cases hp
      have := pathT_len id t n q (h t (by simp)) hq
      simp; omega
    · exact pathK_len id ts n (j + 1) p (fun t ht => h t (by simp [ht])) hp
end
theorem Sub.tup2 {a b c d : AV} (h : Tw.Sub a c) (k : Tw.Sub b d) : Tw.Sub (.tup [a, b]) (.tup [c, d]) := .tup rfl fun j x y hx hy => by
  match j, hx, hy with
  | 0, hx, hy => simp at hx hy; subst hx hy; exact h
  | 1, hx, hy => simp at hx hy; subst hx hy; exact k
  | j + 2, hx, hy => simp at hx
theorem FSub.tup2 {p w : Nat} {els : List AV} {a b c d : AV} (h : FSub p w els a c) (k : FSub p w els b d) : FSub p w els (.tup [a, b]) (.tup [c, d]) := .tup _ _ rfl fun j x y hx hy => by
  match j, hx, hy with
  | 0, hx, hy => simp at hx hy; subst hx hy; exact h
  | 1, hx, hy => simp at hx hy; subst hx hy; exact k
  | j + 2, hx, hy => simp at hx
theorem ints_scal (l : List Int) : escal (ints l) = true := by
  simp [escal, ints, AV.cells, AV.scalar]
def pathAV (o : Option (List Int)) : AV := .tup [.sl 1 (ints (o.getD [])), .bool o.isSome]
theorem Path27 (A : Ar) {P : Program} (hP : P = Try.prog) (id : Int) : ∀ (n : Nat), n ≤ 1000000 → ∀ (t : Tree), within n t → TPure P 27 [t.av, .int .i64 id] (pathAV (pathT id t)) := by
  intro n
  induction n with
  | zero => exact fun _ t h => h.elim
  | succ n ih =>
  intro hn t hw
  refine TPure.of (TC.of_ewp A T0 (T0_ok hP) (hP ▸ Try.func27) rfl _ rfl (by simp) ?_)
  obtain ⟨i, k, s, ks⟩ := t
  have hpk := avs_pur ks
  have hlk := avs_len ks
  simp only [Tree.av, pathT]
  generalize hks : avs ks = aks at hpk hlk
  generalize hr : (if i = id then some [] else pathK id ks 0) = r
  cbv
  ((try cbv) <;> (repeat ((with_reducible refine EW.of ?_); cbv)))
  refine bsplit (fun h => ?_) (fun h => ?_)
  · have h : i = id := eq_t h rfl rfl
    ((try cbv) <;> (repeat ((with_reducible refine EW.of ?_); cbv)))
    rw [if_pos h] at hr
    subst hr
    exact ⟨_, _, VSV.trans (VSV.sub (v' := .tup [.sl 1 [], .bool true]) (Sub.tup2 (Sub.nils 1) (Sub.refl _))) (VSV.pure rfl), rfl, rfl⟩
  · have h : i ≠ id := eq_f h rfl rfl
    rw [if_neg h] at hr
    ((try cbv) <;> (repeat ((with_reducible refine EW.of ?_); cbv)))
    obtain ⟨J, hJ⟩ : ∃ J : Nat → AFr → Store → Prop, J = fun c fr L => ∃ j : Nat, c = ks.length - j ∧ j ≤ ks.length ∧ pathK id (ks.drop j) j = r ∧
      fr = ⟨37, [(6, .int .i64 j), (2, .ref 0 4 0 0), (1, .int .i64 id)]⟩ ∧ L = [some (.box 4 (.agg [.int .i64 i, .int .i64 k, .str s, .sl 4 aks]))] := ⟨_, rfl⟩
    refine TW.loopE A (T0_ok hP) J (n0 := ks.length) (fr0 := ⟨37, [(6, .int .i64 0), (2, .ref 0 4 0 0), (1, .int .i64 id)]⟩) (L0 := [some (.box 4 (.agg [.int .i64 i, .int .i64 k, .str s, .sl 4 aks]))])
      (VS.pick rfl (.cons (Sub.refl _) (.cons (Sub.refl _) (.cons (Sub.refl _) .nil)))) (by rw [hJ]; exact ⟨0, rfl, Nat.zero_le _, hr, rfl, rfl⟩) ?_
    intro c fr L hj
    rw [hJ] at hj
    obtain ⟨j, hc, hj, hinv, rfl, rfl⟩ := hj
    cbv
    ((try cbv) <;> (repeat ((with_reducible refine EW.of ?_); cbv)))
    refine bsplit (fun h => ?_) (fun h => ?_)
    · have h : j < aks.length := lt_nt h rfl (A.ok_len _)
      obtain ⟨t', ht'⟩ : ∃ t', ks[j]? = some t' := ⟨_, List.getElem?_eq_getElem (by omega)⟩
      have hav := avs_get ht'
      rw [hks] at hav
      have hrec := ih (by omega) t' (hw.2 t' (List.mem_of_getElem? ht'))
      have hwl := hw.len
      rw [pathK_drop ht'] at hinv
      have hpl := fun p => pathT_len id t' n p (hw.2 t' (List.mem_of_getElem? ht'))
      obtain ⟨i', k', s', ks'⟩ := t'
      simp only [Tree.av, pathAV] at hrec hav
      have hpk' := avs_pur ks'
      generalize avs ks' = aks' at hrec hav hpk'
      generalize pathT id (.node i' k' s' ks') = q at hrec hinv hpl
      ((try cbv) <;> (repeat ((with_reducible refine EW.of ?_); cbv)))
      refine ⟨j, _, rfl, hav, ?_⟩
      cbv
      refine ⟨Ent.of (hP ▸ Try.func27) rfl, ?_⟩
      refine TC.pure hrec (by simpa [AV.pur, purL] using hpk') ?_
      cases q with
      | none =>
        cbv
        ((try cbv) <;> (repeat ((with_reducible refine EW.of ?_); cbv)))
        ((try cbv) <;> (repeat ((with_reducible refine EW.of ?_); cbv)))
        refine ⟨ks.length - (j + 1), ⟨37, [(6, .int .i64 ((j + 1 : Nat) : Int)), (2, .ref 0 4 0 0), (1, .int .i64 id)]⟩, [some (.box 4 (.agg [.int .i64 i, .int .i64 k, .str s, .sl 4 aks]))], by omega,
          VS.pick rfl (.cons (Sub.inc A (by omega)) (.cons (Sub.refl _) (.cons (Sub.refl _) .nil))), ?_⟩
        rw [hJ]
        exact ⟨j + 1, rfl, by omega, hinv, rfl, rfl⟩
      | some p =>
        have hpl := hpl p rfl
        subst hinv
        cases p with
        | nil =>
          cbv
          ((try cbv) <;> (repeat ((with_reducible refine EW.of ?_); cbv)))
          ((try cbv) <;> (repeat ((with_reducible refine EW.of ?_); cbv)))
          exact ⟨_, _, VSV.trans (VSV.sub (v' := .tup [.sl 1 [.int .i64 j], .bool true]) (Sub.tup2 (Sub.slt 1 _) (Sub.refl _))) (VSV.pure rfl), rfl, rfl⟩
        | cons x p =>
          have hp := ints_pur (x :: p)
          have hsc := ints_scal (x :: p)
          have hil := ints_len p
          have hix : ints (x :: p) = .int .i64 x :: ints p := rfl
          simp only [Option.getD_some, Option.isSome_some]
          rw [hix] at hp hsc ⊢
          have hfin : pathAV (some ((j : Int) :: x :: p)) = .tup [.sl 1 (.int .i64 j :: .int .i64 x :: ints p), .bool true] := rfl
          rw [hfin]
          generalize ints p = ip at hp hil hsc
          simp at hpl
          cbv
          ((try cbv) <;> (repeat ((with_reducible refine EW.of ?_); cbv)))
          ((try cbv) <;> (repeat ((with_reducible refine EW.of ?_); cbv)))
          obtain ⟨nn, hnn⟩ : ∃ nn, nn = ip.length + 2 := ⟨_, rfl⟩
          refine ⟨⟨hsc⟩, 1, rfl, nn, .int .i64 j :: .int .i64 x :: ip, by simp; omega, rfl, Nat.le_refl _, ?_, by omega, ?_⟩
          · show nn * 8 ≤ _
            omega
          ((try cbv) <;> (repeat ((with_reducible refine EW.of ?_); cbv)))
          exact ⟨_, _, VSV.trans (VSV.freeze (p := 1) (els := .int .i64 j :: .int .i64 x :: ip) (v' := .tup [.sl 1 (.int .i64 j :: .int .i64 x :: ip), .bool true]) rfl (FSub.tup2 (.whole (by simp; omega)) (.sub (Sub.refl _)))) (VSV.pure (by simpa [AV.pur, purL] using hp)), rfl, rfl⟩
    · have h : aks.length ≤ j := lt_nf h rfl (A.ok_len _)
      ((try cbv) <;> (repeat ((with_reducible refine EW.of ?_); cbv)))
      have hd : ks.drop j = [] := List.drop_eq_nil_of_le (by omega)
      rw [hd] at hinv
      simp only [pathK] at hinv
      subst hinv
      exact ⟨_, _, VSV.trans (VSV.sub (v' := .tup [.sl 1 [], .bool false]) (Sub.tup2 (Sub.nils 1) (Sub.refl _))) (VSV.pure rfl), rfl, rfl⟩
/-- What stands at a path. -/
def atT : Tree → List Int → Option Tree
  | t, [] => some t
  | .node _ _ _ ks, i :: p => if i < 0 then none else match ks[i.toNat]? with
    | some k => atT k p
    | none => none
def t0 : Tree := .node 0 0 ⟨#[]⟩ []
def atAV (o : Option Tree) : AV := .tup [(o.getD t0).av, .bool o.isSome]
theorem At29 (A : Ar) {P : Program} (hP : P = Try.prog) (n : Nat) (t : Tree) (hw : within n t) (p : List Int) (hp : p.length < 9223372036854775807) : TPure P 29 [t.av, .sl 1 (ints p)] (atAV (atT t p)) := by
  refine TPure.of (TC.of_ewp A T0 (T0_ok hP) (hP ▸ Try.func29) rfl _ rfl (by simp) ?_)
  have hpi := ints_pur p
  have hli := ints_len p
  generalize hip : ints p = ip at hpi hli
  generalize hr : atT t p = r
  obtain ⟨i, k, s, ks⟩ := t
  simp only [Tree.av]
  have hpk := avs_pur ks
  have hlk := avs_len ks
  generalize hks : avs ks = aks at hpk hlk
  cbv
  ((try cbv) <;> (repeat ((with_reducible refine EW.of ?_); cbv)))
  obtain ⟨z, hz⟩ : ∃ z : AV, z = .agg [.int .i64 0, .int .i64 0, .str ⟨⟨[]⟩⟩, .nils] := ⟨_, rfl⟩
  rw [← hz]
  obtain ⟨J, hJ⟩ : ∃ J : Nat → AFr → Store → Prop, J = fun c fr L => ∃ j : Nat, c = p.length - j ∧ j ≤ p.length ∧ ∃ (n : Nat) (i k : Int) (s : ByteArray) (ks : List Tree), within n (.node i k s ks) ∧ atT (.node i k s ks) (p.drop j) = r ∧
      fr = ⟨38, [(6, .int .i64 j), (4, .ref 1 4 0 0), (2, .ref 0 4 0 0), (1, .sl 1 ip)]⟩ ∧ L = [some (.box 4 (.agg [.int .i64 i, .int .i64 k, .str s, .sl 4 (avs ks)])), some (.box 4 z)] := ⟨_, rfl⟩
  refine TW.loopE A (T0_ok hP) J (n0 := p.length) (fr0 := ⟨38, [(6, .int .i64 0), (4, .ref 1 4 0 0), (2, .ref 0 4 0 0), (1, .sl 1 ip)]⟩) (L0 := [some (.box 4 (.agg [.int .i64 i, .int .i64 k, .str s, .sl 4 aks])), some (.box 4 z)])
    (VS.pick rfl (.cons (Sub.refl _) (.cons (Sub.refl _) (.cons (Sub.refl _) (.cons (Sub.refl _) .nil))))) (by rw [hJ]; exact ⟨0, rfl, Nat.zero_le _, n, i, k, s, ks, hw, hr, rfl, by rw [hks]⟩) ?_
  intro c fr L hj
  rw [hJ] at hj
  obtain ⟨j, hc, hj, n', i', k', s', ks', hw', hinv, rfl, rfl⟩ := hj
  have hpk' := avs_pur ks'
  have hlk' := avs_len ks'
  have hwl := hw'.len
  generalize hks' : avs ks' = aks' at hpk' hlk'
  subst hz
  cbv
  ((try cbv) <;> (repeat ((with_reducible refine EW.of ?_); cbv)))
  refine bsplit (fun h => ?_) (fun h => ?_)
  · have h : j < ip.length := lt_nt h rfl (A.ok_len _)
    obtain ⟨x, hx⟩ : ∃ x, p[j]? = some x := ⟨_, List.getElem?_eq_getElem (by omega)⟩
    have hxa := ints_get hx
    rw [hip] at hxa
    have hd := List.drop_eq_getElem?_toList_append (l := p) (i := j)
    rw [hx] at hd
    simp only [Option.toList_some, List.singleton_append] at hd
    rw [hd] at hinv
    ((try cbv) <;> (repeat ((with_reducible refine EW.of ?_); cbv)))
    (refine TW.draw (A := A) (T0_ok hP) (hP ▸ follows_mixed) (by kernel_rfl) rfl ?_; cbv)
    refine ⟨j, _, rfl, hxa, ?_⟩
    cbv
    refine bsplit (fun h1 => ?_) (fun h1 => ?_)
    · have h1 : x < 0 := lt_t h1 rfl rfl
      ((try cbv) <;> (repeat ((with_reducible refine EW.of ?_); cbv)))
      simp only [atT, if_pos h1] at hinv
      subst hinv
      exact ⟨_, _, VSV.trans (VSV.sub (v' := atAV none) (Sub.tup2 (Sub.agg rfl fun j c d hc hd => by
        match j, hc, hd with
        | 0, hc, hd => cases hc; cases hd; exact Sub.refl _
        | 1, hc, hd => cases hc; cases hd; exact Sub.refl _
        | 2, hc, hd => cases hc; cases hd; exact Sub.refl _
        | 3, hc, hd => cases hc; cases hd; exact Sub.nils 4
        | j + 4, hc, hd => cases hc) (Sub.refl _))) (VSV.pure rfl), rfl, rfl⟩
    · have h1 : 0 ≤ x := lt_f h1 rfl rfl
      obtain ⟨x', rfl⟩ := Int.eq_ofNat_of_zero_le h1
      have hnx : ¬ ((x' : Int) < 0) := by omega
      simp only [atT, if_neg hnx, Int.toNat_natCast] at hinv
      ((try cbv) <;> (repeat ((with_reducible refine EW.of ?_); cbv)))
      refine ⟨j, _, rfl, hxa, ?_⟩
      ((try cbv) <;> (repeat ((with_reducible refine EW.of ?_); cbv)))
      refine bsplit (fun h2 => ?_) (fun h2 => ?_)
      · have h2 : aks'.length ≤ x' := le_nt h2 (A.ok_len _) rfl
        ((try cbv) <;> (repeat ((with_reducible refine EW.of ?_); cbv)))
        have hnk : ks'[x']? = none := List.getElem?_eq_none (by omega)
        rw [hnk] at hinv
        subst hinv
        exact ⟨_, _, VSV.trans (VSV.sub (v' := atAV none) (Sub.tup2 (Sub.agg rfl fun j c d hc hd => by
          match j, hc, hd with
          | 0, hc, hd => cases hc; cases hd; exact Sub.refl _
          | 1, hc, hd => cases hc; cases hd; exact Sub.refl _
          | 2, hc, hd => cases hc; cases hd; exact Sub.refl _
          | 3, hc, hd => cases hc; cases hd; exact Sub.nils 4
          | j + 4, hc, hd => cases hc) (Sub.refl _))) (VSV.pure rfl), rfl, rfl⟩
      · have h2 : x' < aks'.length := le_nf h2 (A.ok_len _) rfl
        obtain ⟨t2, ht2⟩ : ∃ t2, ks'[x']? = some t2 := ⟨_, List.getElem?_eq_getElem (by omega)⟩
        have hav2 := avs_get ht2
        rw [hks'] at hav2
        rw [ht2] at hinv
        have hw2 : ∃ n2, within n2 t2 := by
          cases n' with
          | zero => exact hw'.elim
          | succ n' => exact ⟨n', hw'.2 t2 (List.mem_of_getElem? ht2)⟩
        obtain ⟨n2, hw2⟩ := hw2
        obtain ⟨i2, k2, s2, ks2⟩ := t2
        simp only [Tree.av] at hav2
        ((try cbv) <;> (repeat ((with_reducible refine EW.of ?_); cbv)))
        (refine TW.drawT (A := A) (T0_ok hP) (hP ▸ follows_mixed) (by cbv) rfl (by cbv) rfl rfl rfl ?_; cbv)
        refine ⟨j, _, rfl, hxa, ?_⟩
        cbv
        refine ⟨x', _, rfl, hav2, ?_⟩
        generalize hks2 : avs ks2 = aks2 at hav2 ⊢
        cbv
        ((try cbv) <;> (repeat ((with_reducible refine EW.of ?_); cbv)))
        refine ⟨p.length - (j + 1), ⟨38, [(6, .int .i64 ((j + 1 : Nat) : Int)), (4, .ref 1 4 0 0), (2, .ref 0 4 0 0), (1, .sl 1 ip)]⟩, [some (.box 4 (.agg [.int .i64 i2, .int .i64 k2, .str s2, .sl 4 aks2])), some (.box 4 (.agg [.int .i64 0, .int .i64 0, .str ⟨⟨[]⟩⟩, .nils]))], by omega,
          VS.pick rfl (.cons (Sub.inc A (by omega)) (.cons (Sub.refl _) (.cons (Sub.refl _) (.cons (Sub.refl _) .nil)))), ?_⟩
        rw [hJ]
        exact ⟨j + 1, rfl, by omega, n2, i2, k2, s2, ks2, hw2, hinv, rfl, by rw [hks2]⟩
  · have h : ip.length ≤ j := lt_nf h rfl (A.ok_len _)
    ((try cbv) <;> (repeat ((with_reducible refine EW.of ?_); cbv)))
    have hd : p.drop j = [] := List.drop_eq_nil_of_le (by omega)
    rw [hd] at hinv
    simp only [atT] at hinv
    subst hinv
    exact ⟨_, _, VSV.trans (VSV.sub (v' := atAV (some (.node i' k' s' ks'))) (Sub.eq (by simp only [atAV, Option.getD_some, Tree.av, Option.isSome_some, hks']; rfl))) (VSV.pure (by simp only [atAV, Option.getD_some, Option.isSome_some, AV.pur, purL, Tree.av_pur]; rfl)), rfl, rfl⟩
end Go.Proofs.Ytpjibokaeefhiaa
