import Derived.Test.YtpjibokaeefhiaaXb
import Derived.Test.YtpjibokaeefhiaaNa
/-! tree.Copy, the rows on a path being left as rows of ours. -/
namespace Go.Proofs.Ytpjibokaeefhiaa
open Go.Proofs.Ytpjibokaeefhiaa.Tw
def okP : List Tree → List Nat → Prop
  | ks, [i] => i < ks.length
  | ks, i :: j :: path => ∃ ki kk s kks, ks[i]? = some (.node ki kk s kks) ∧ okP kks (j :: path)
  | _, [] => False
theorem Sp.arr {E : Em} {L : Store} : ∀ {ps : List Nat} {ks : List Tree} {path : List Nat}, Sp E L ps ks path → ∀ p ∈ ps, ∃ els, L[p]? = some (some (.arr 4 els))
  | [p], ks, [i], hs, q, hq => by
    rw [List.mem_singleton.1 hq]
    exact ⟨_, hs.1⟩
  | p :: q :: ps, ks, i :: j :: path, ⟨ki, kk, s, kks, h1, h2, h3⟩, x, hx => by
    rcases List.mem_cons.1 hx with rfl | hx
    · exact ⟨_, h2⟩
    · exact Sp.arr h3 x hx
  | [], _, _, hs, _, _ => hs.elim
  | [_], _, [], hs, _, _ => hs.elim
  | [_], _, _ :: _ :: _, hs, _, _ => hs.elim
  | _ :: _ :: _, _, [], hs, _, _ => hs.elim
  | _ :: _ :: _, _, [_], hs, _, _ => hs.elim
/-- The row of kids so far, at pr: whole trees; behind the path's kid a chain. -/
def El (E : Em) (ks : List Tree) : List Nat → Store → Nat → Nat → List AV → Prop
  | i :: i2 :: path, L, pr, j, els => (j ≤ i ∧ els = E.tree.l (ks.take j)) ∨ (i < j ∧ ∃ q ps ki kk s kks, ks[i]? = some (.node ki kk s kks) ∧ els = (E.tree.l (ks.take j)).set i (.agg [.int .i64 ki, .int .i64 kk, .str s, .row q 4 0 kks.length]) ∧ Sp E L (q :: ps) kks (i2 :: path) ∧ (q :: ps).Nodup ∧ pr ∉ q :: ps)
  | _, _, _, j, els => els = E.tree.l (ks.take j)
theorem El.step {E : Em} {ks : List Tree} {i0 : Nat} {path : List Nat} {L L4 L5 : Store} {pr p4 j : Nat} {els : List AV} {i k : Int} {s : ByteArray} {kks : List Tree} {kid : AV} (h : El E ks (i0 :: path) L pr j els) (ht : ks[j]? = some (.node i k s kks))
    (hk : (kid = .sl 4 (E.tree.l kks) ∧ ¬ (path ≠ [] ∧ j = i0)) ∨ ∃ p ps, kid = .row p 4 0 kks.length ∧ (path ≠ [] ∧ j = i0) ∧ Sp E L4 (p :: ps) kks path ∧ (p :: ps).Nodup ∧ ∀ x ∈ p :: ps, L.length ≤ x)
    (hp4 : p4 = L4.length) (hle : L.length ≤ L4.length) (h5 : ∀ x, x < L.length → x ≠ pr → L5[x]? = L[x]?) (h6 : ∀ x, L.length ≤ x → x < L4.length → L5[x]? = L4[x]?) : El E ks (i0 :: path) L5 p4 (j + 1) (els ++ [.agg [.int .i64 i, .int .i64 k, .str s, kid]]) := by
  have htk : ks.take (j + 1) = ks.take j ++ [.node i k s kks] := by rw [List.take_add_one, ht]; rfl
  have hlj : (E.tree.l (ks.take j)).length = j := by rw [E.tree.len, List.length_take]; have := (List.getElem?_eq_some_iff.1 ht).1; omega
  have hEl : E.tree.l (ks.take (j + 1)) = E.tree.l (ks.take j) ++ [.agg [.int .i64 i, .int .i64 k, .str s, .sl 4 (E.tree.l kks)]] := by rw [htk, E.tree.app, E.tree.cons, E.tree.nil, E.node]
  cases path with
  | nil =>
    rcases hk with ⟨rfl, _⟩ | ⟨_, _, _, hc, _⟩
    · show _ = E.tree.l (ks.take (j + 1))
      rw [hEl, show els = _ from h]
    · exact absurd rfl hc.1
  | cons i2 path =>
    rcases hk with ⟨rfl, hc⟩ | ⟨p, ps, rfl, ⟨_, rfl⟩, hsp, hnd, hge⟩
    · have hji : j ≠ i0 := fun e => hc ⟨by simp, e⟩
      rcases h with ⟨h1, h2⟩ | ⟨h1, q, ps, ki, kk, s2, kks2, a1, a2, a3, a4, a5⟩
      · exact .inl ⟨by omega, by rw [h2, hEl]⟩
      · refine .inr ⟨by omega, q, ps, ki, kk, s2, kks2, a1, ?_, Sp.same (fun x hx => h5 x (Sp.lt a3 x hx) fun e => a5 (e ▸ hx)) a3, a4, fun hx => ?_⟩
        · rw [a2, hEl, List.set_append_left _ _ (by rw [hlj]; exact h1)]
        · have := Sp.lt a3 _ hx
          omega
    · rcases h with ⟨h1, h2⟩ | ⟨h1, _⟩
      · refine .inr ⟨by omega, p, ps, i, k, s, kks, ht, ?_, Sp.same (fun x hx => h6 x (hge x hx) (Sp.lt hsp x hx)) hsp, hnd, fun hx => ?_⟩
        · rw [h2, hEl, List.set_append_right _ _ (by omega), hlj, Nat.sub_self]
          rfl
        · have := Sp.lt hsp _ hx
          omega
      · omega
def Rw (E : Em) (ks : List Tree) (path : List Nat) (L : Store) (j : Nat) (v : AV) : Prop := (j = 0 ∧ v = .nils) ∨ ∃ p els, v = .row p 4 0 j ∧ L[p]? = some (some (.arr 4 els)) ∧ 2 ≤ p ∧ els.length = j ∧ El E ks path L p j els
theorem copySp (A : Ar) (E : Em) {P : Program} (hP : P = Try.prog) : ∀ (path : List Nat) (n : Nat) (i k : Int) (s : ByteArray) (ks : List Tree), within n (.node i k s ks) → okP ks path → TC P 63 [E.tree.v (.node i k s ks)] [] (spR E i k s ks path []) := by
  intro path
  induction path with
  | nil => exact fun n i k s ks _ h => by cases ks <;> exact h.elim
  | cons i0 path ih =>
  intro n i k s ks hw hok
  obtain ⟨m, rfl⟩ : ∃ m, n = m + 1 := by
    cases n with
    | zero => exact hw.elim
    | succ m => exact ⟨m, rfl⟩
  have hll := E.tree.len ks
  have hwl := hw.len'
  rw [E.node]
  refine TC.of_ewp A T0 (T0_ok hP) (hP ▸ Try.func63) rfl _ rfl (by simp) ?_
  obtain ⟨R, hR⟩ : ∃ R, R = spR E i k s ks (i0 :: path) [] := ⟨_, rfl⟩
  rw [← hR]
  cbv
  ((try cbv) <;> (repeat ((with_reducible refine EW.of ?_); cbv)))
  obtain ⟨T, hT⟩ : ∃ T, T = AV.agg [.int .i64 i, .int .i64 k, .str s, .sl 4 (E.tree.l ks)] := ⟨_, rfl⟩
  obtain ⟨J, hJ⟩ : ∃ J : Nat → AFr → Store → Prop, J = fun c fr L => ∃ j v, c = ks.length - j ∧ j ≤ ks.length ∧ fr = ⟨22, [(9, .int .i64 j), (8, .int .i64 (A.len (E.tree.l ks))), (7, .sl 4 (E.tree.l ks)), (3, v), (2, .ref 1 4 0 0), (1, .ref 0 4 0 0)]⟩ ∧ L[0]? = some (some (.box 4 T)) ∧ L[1]? = some (some (.box 4 (.agg [.int .i64 0, .int .i64 0, .str ⟨⟨[]⟩⟩, .nils]))) ∧ Rw E ks (i0 :: path) L j v := ⟨_, rfl⟩
  refine TW.loopE A (T0_ok hP) J (n0 := ks.length) (fr0 := ⟨22, [(9, .int .i64 0), (8, .int .i64 (A.len (E.tree.l ks))), (7, .sl 4 (E.tree.l ks)), (3, .nils), (2, .ref 1 4 0 0), (1, .ref 0 4 0 0)]⟩)
    (VS.pick rfl (.cons (Sub.refl _) (.cons (Sub.refl _) (.cons (Sub.refl _) (.cons (Sub.refl _) (.cons (Sub.refl _) (.cons (Sub.refl _) .nil)))))))
    (by rw [hJ]; exact ⟨0, .nils, rfl, Nat.zero_le _, rfl, by rw [hT]; rfl, rfl, .inl ⟨rfl, rfl⟩⟩) ?_
  intro c fr L hj
  rw [hJ] at hj
  obtain ⟨j, v, hc, hj, rfl, h0, h1, hv⟩ := hj
  cbv
  ((try cbv) <;> (repeat ((with_reducible refine EW.of ?_); cbv)))
  refine bsplit (fun h => ?_) (fun h => ?_)
  · have h : j < (E.tree.l ks).length := lt_nt h rfl (A.ok_len _)
    obtain ⟨t', ht'⟩ : ∃ t', ks[j]? = some t' := ⟨_, List.getElem?_eq_getElem (by omega)⟩
    have hwt := hw.2 t' (List.mem_of_getElem? ht')
    have hcp := copy63 A E hP m
    obtain ⟨i', k', s', ks'⟩ := t'
    ((try cbv) <;> (repeat ((with_reducible refine EW.of ?_); cbv)))
    refine ⟨j, _, rfl, E.getn ht', ?_⟩
    cbv
    obtain ⟨q, hq⟩ : ∃ q, q = L.length := ⟨_, rfl⟩
    obtain ⟨L2, hL2⟩ : ∃ M : Store, M = L ++ [some (.box 4 (.agg [.int .i64 0, .int .i64 0, .str ⟨⟨[]⟩⟩, .nils]))] := ⟨_, rfl⟩
    have hg2 : L2[q]? = some (some (.box 4 (.agg [.int .i64 0, .int .i64 0, .str ⟨⟨[]⟩⟩, .nils]))) := by rw [hL2, hq]; simp
    simp only [← List.length.eq_def, ← List.append.eq_def, ← List.get?Internal.eq_def]
    rw [← hq]
    rw [show L.append [some (.box 4 (.agg [.int .i64 0, .int .i64 0, .str ⟨⟨[]⟩⟩, .nils]))] = L2 from hL2.symm]
    rw [show L2.get?Internal q = _ from hg2]
    refine chk_iff.2 ⟨by rfl, ?_⟩
    have hgn := E.node i' k' s' ks'
    generalize hL3 : List.set L2 q _ = L3
    replace hL3 : L3 = L2.set q (some (.box 4 (.agg [.int .i64 i', .int .i64 k', .str s', .sl 4 (E.tree.l ks')]))) := hL3.symm
    have hq2 : q < L2.length := (List.getElem?_eq_some_iff.1 hg2).1
    have hg3 : L3[q]? = some (some (.box 4 (.agg [.int .i64 i', .int .i64 k', .str s', .sl 4 (E.tree.l ks')]))) := by rw [hL3, List.getElem?_set_self hq2]
    have hx3 : ∀ x, x < L.length → L3[x]? = L[x]? := fun x hx => by rw [hL3, List.getElem?_set_ne (by omega), hL2, List.getElem?_append_left hx]
    cbv
    with_reducible refine EW.of ?_
    cbv
    simp only [← List.get?Internal.eq_def]
    rw [show L3.get?Internal q = _ from hg3]
    cbv
    have hcp := hcp _ hwt
    rw [hgn] at hcp
    have ppk : purL [.agg [.int .i64 i', .int .i64 k', .str s', .sl 4 (E.tree.l ks')]] = true := by (repeat (first | exact rfl | exact Emb.purL _ _ | assumption | apply pur_cons | apply pur_sl | apply pur_slt | apply pur_agg | apply pur_tup))
    obtain ⟨nk, hnk⟩ : ∃ n, n = ks'.length := ⟨_, rfl⟩
    have hcall : TC P 63 [.agg [.int .i64 i', .int .i64 k', .str s', .sl 4 (E.tree.l ks')]] L3 (fun x L4 => ∃ kid M, x = .ret (.agg [.int .i64 i', .int .i64 k', .str s', kid]) ∧ L4 = L3 ++ M ∧ ((kid = .sl 4 (E.tree.l ks') ∧ ¬ (path ≠ [] ∧ j = i0)) ∨ ∃ p ps, kid = .row p 4 0 nk ∧ (path ≠ [] ∧ j = i0) ∧ Sp E L4 (p :: ps) ks' path ∧ (p :: ps).Nodup ∧ ∀ x ∈ p :: ps, L3.length ≤ x)) := by
      by_cases hc2 : path ≠ [] ∧ j = i0
      · have hok2 : okP ks' path := by
          obtain ⟨hne, rfl⟩ := hc2
          cases path with
          | nil => exact absurd rfl hne
          | cons i2 path =>
            obtain ⟨ki, kk, s2, kks, h1, h2⟩ := hok
            rw [ht'] at h1
            cases h1
            exact h2
        have := spR.call (ih m i' k' s' ks' hwt hok2) (by rw [hgn]; exact ppk) L3
        rw [hgn] at this
        exact TC.mono this fun x L4 ⟨M, p, ps, h1, h2, h3, h4, h5⟩ => ⟨.row p 4 0 ks'.length, M, h1, h2, .inr ⟨p, ps, by rw [hnk], hc2, h3, h4, h5⟩⟩
      · exact TC.pure hcp ppk ⟨_, [], rfl, by simp, .inl ⟨rfl, hc2⟩⟩
    refine ⟨Ent.of (hP ▸ Try.func63) rfl, TC.mono hcall ?_⟩
    rintro x L4 ⟨kid, M, rfl, hL4, hkid⟩
    have hx4 : ∀ x, x < L3.length → L4[x]? = L3[x]? := fun x hx => by rw [hL4, List.getElem?_append_left hx]
    obtain ⟨p4, hp4⟩ : ∃ p, p = L4.length := ⟨_, rfl⟩
    have hk0 := hkid
    obtain ⟨jc, hjc⟩ : ∃ x, x = j + 1 := ⟨_, rfl⟩
    have hj1 : A.op .add .i64 (j : Int) 1 = (jc : Int) := by rw [hjc]; exact inc_eq A (by omega)
    have hl2 : L2.length = L.length + 1 := by rw [hL2]; simp
    have hl3 : L3.length = L.length + 1 := by rw [hL3, List.length_set, hl2]
    have hl4 : L.length + 1 ≤ L4.length := by rw [hL4, List.length_append, hl3]; omega
    have h0l := (List.getElem?_eq_some_iff.1 h0).1
    have h1l := (List.getElem?_eq_some_iff.1 h1).1
    have hx43 : ∀ x, x < L.length → L4[x]? = L[x]? := fun x hx => (hx4 x (by omega)).trans (hx3 x hx)
    have hk1 : ∀ kid : AV, ((kid = .sl 4 (E.tree.l ks') ∧ ¬ (path ≠ [] ∧ j = i0)) ∨ ∃ p ps, kid = .row p 4 0 nk ∧ (path ≠ [] ∧ j = i0) ∧ Sp E L4 (p :: ps) ks' path ∧ (p :: ps).Nodup ∧ ∀ x ∈ p :: ps, L3.length ≤ x) → (kid = .sl 4 (E.tree.l ks') ∧ ¬ (path ≠ [] ∧ j = i0)) ∨ ∃ p ps, kid = .row p 4 0 ks'.length ∧ (path ≠ [] ∧ j = i0) ∧ Sp E L4 (p :: ps) ks' path ∧ (p :: ps).Nodup ∧ ∀ x ∈ p :: ps, L.length ≤ x := fun kid h => h.imp id fun ⟨p, ps, a, b, c, d, e⟩ => ⟨p, ps, by rw [a, hnk], b, c, d, fun x hx => by have := e x hx; omega⟩
    rcases hv with ⟨hj0, rfl⟩ | ⟨pr, els, rfl, hpr, hpr2, hels, hel⟩
    · rcases hkid with ⟨rfl, hc2⟩ | ⟨pk, psk, rfl, hc2, hsp, hnd, hge⟩
      · cbv
        ((try cbv) <;> (repeat ((with_reducible refine EW.of ?_); cbv)))
        refine ⟨⟨rfl⟩, jc, [.agg [.int .i64 i', .int .i64 k', .str s', .sl 4 (E.tree.l ks')]], by rw [hjc, hj0]; rfl, rfl, Nat.zero_le _, by omega, by omega, ?_⟩
        rw [← hp4]
        generalize hL5 : L4 ++ [some (.arr _ _)] = L5
        replace hL5 : L5 = L4 ++ [some (.arr 4 [.agg [.int .i64 i', .int .i64 k', .str s', .sl 4 (E.tree.l ks')]])] := hL5.symm
        have h54 : ∀ x, x < L4.length → L5[x]? = L4[x]? := fun x hx => by rw [hL5, List.getElem?_append_left hx]
        have hp5 : L5[p4]? = some (some (.arr 4 [.agg [.int .i64 i', .int .i64 k', .str s', .sl 4 (E.tree.l ks')]])) := by rw [hL5, hp4]; simp
        have g0 : L5[0]? = _ := (h54 0 (by omega)).trans ((hx43 0 h0l).trans h0)
        have g1 : L5[1]? = _ := (h54 1 (by omega)).trans ((hx43 1 h1l).trans h1)
        have hn5 : ([.agg [.int .i64 i', .int .i64 k', .str s', .sl 4 (E.tree.l ks')]] : List AV).length = jc := by rw [hjc, hj0]; rfl
        have hE5 := El.step (L := L) (L5 := L5) (pr := L.length) (els := []) (i0 := i0) (j := j) (by
          rw [hj0]
          cases path with
          | nil => exact E.tree.nil.symm
          | cons i2 path => exact .inl ⟨Nat.zero_le _, E.tree.nil.symm⟩) ht' (hk1 _ hk0) hp4 (by omega) (fun x hx _ => (h54 x (by omega)).trans (hx43 x hx)) (fun x _ hx => h54 x hx)
        rw [← hjc] at hE5
        cbv
        ((try cbv) <;> (repeat ((with_reducible refine EW.of ?_); cbv)))
        refine ⟨⟨ks.length - jc, ⟨22, [(9, .int .i64 (jc : Int)), (8, .int .i64 (A.len (E.tree.l ks))), (7, .sl 4 (E.tree.l ks)), (3, .row p4 4 0 jc), (2, .ref 1 4 0 0), (1, .ref 0 4 0 0)]⟩, L5, by omega, VS.pick rfl (.cons ?_ (.cons (Sub.refl _) (.cons (Sub.refl _) (.cons (Sub.refl _) (.cons (Sub.refl _) (.cons (Sub.refl _) .nil)))))), ?_⟩⟩
        · show Tw.Sub (.int .i64 (A.op .add .i64 (j : Int) 1)) _
          rw [hj1]
          exact Sub.refl _
        · rw [hJ]
          exact ⟨jc, _, rfl, by omega, rfl, g0, g1, .inr ⟨p4, _, rfl, hp5, by omega, hn5, hE5⟩⟩
      · cbv
        ((try cbv) <;> (repeat ((with_reducible refine EW.of ?_); cbv)))
        refine ⟨⟨rfl⟩, jc, [.agg [.int .i64 i', .int .i64 k', .str s', .row pk 4 0 nk]], by rw [hjc, hj0]; rfl, rfl, Nat.zero_le _, by omega, by omega, ?_⟩
        rw [← hp4]
        generalize hL5 : L4 ++ [some (.arr _ _)] = L5
        replace hL5 : L5 = L4 ++ [some (.arr 4 [.agg [.int .i64 i', .int .i64 k', .str s', .row pk 4 0 nk]])] := hL5.symm
        have h54 : ∀ x, x < L4.length → L5[x]? = L4[x]? := fun x hx => by rw [hL5, List.getElem?_append_left hx]
        have hp5 : L5[p4]? = some (some (.arr 4 [.agg [.int .i64 i', .int .i64 k', .str s', .row pk 4 0 nk]])) := by rw [hL5, hp4]; simp
        have g0 : L5[0]? = _ := (h54 0 (by omega)).trans ((hx43 0 h0l).trans h0)
        have g1 : L5[1]? = _ := (h54 1 (by omega)).trans ((hx43 1 h1l).trans h1)
        have hn5 : ([.agg [.int .i64 i', .int .i64 k', .str s', .row pk 4 0 nk]] : List AV).length = jc := by rw [hjc, hj0]; rfl
        have hE5 := El.step (L := L) (L5 := L5) (pr := L.length) (els := []) (i0 := i0) (j := j) (by
          rw [hj0]
          cases path with
          | nil => exact E.tree.nil.symm
          | cons i2 path => exact .inl ⟨Nat.zero_le _, E.tree.nil.symm⟩) ht' (hk1 _ hk0) hp4 (by omega) (fun x hx _ => (h54 x (by omega)).trans (hx43 x hx)) (fun x _ hx => h54 x hx)
        rw [← hjc] at hE5
        cbv
        ((try cbv) <;> (repeat ((with_reducible refine EW.of ?_); cbv)))
        refine ⟨⟨ks.length - jc, ⟨22, [(9, .int .i64 (jc : Int)), (8, .int .i64 (A.len (E.tree.l ks))), (7, .sl 4 (E.tree.l ks)), (3, .row p4 4 0 jc), (2, .ref 1 4 0 0), (1, .ref 0 4 0 0)]⟩, L5, by omega, VS.pick rfl (.cons ?_ (.cons (Sub.refl _) (.cons (Sub.refl _) (.cons (Sub.refl _) (.cons (Sub.refl _) (.cons (Sub.refl _) .nil)))))), ?_⟩⟩
        · show Tw.Sub (.int .i64 (A.op .add .i64 (j : Int) 1)) _
          rw [hj1]
          exact Sub.refl _
        · rw [hJ]
          exact ⟨jc, _, rfl, by omega, rfl, g0, g1, .inr ⟨p4, _, rfl, hp5, by omega, hn5, hE5⟩⟩
    · have hprl := (List.getElem?_eq_some_iff.1 hpr).1
      have hpr4 := (hx43 pr hprl).trans hpr
      rcases hkid with ⟨rfl, hc2⟩ | ⟨pk, psk, rfl, hc2, hsp, hnd, hge⟩
      · cbv
        ((try cbv) <;> (repeat ((with_reducible refine EW.of ?_); cbv)))
        simp only [← List.get?Internal.eq_def]
        rw [show L4.get?Internal pr = _ from hpr4]
        refine chk_iff.2 ⟨by rfl, ?_⟩
        refine ⟨⟨rfl⟩, jc, els ++ [.agg [.int .i64 i', .int .i64 k', .str s', .sl 4 (E.tree.l ks')]], by rw [hjc]; rfl, by rw [List.take_of_length_le (by omega)], by omega, by show jc * 56 ≤ _; omega, by omega, ?_⟩
        rw [← hp4]
        dsimp only
        generalize hL5 : L4.set pr none ++ [some (.arr _ _)] = L5
        replace hL5 : L5 = L4.set pr none ++ [some (.arr 4 (els ++ [.agg [.int .i64 i', .int .i64 k', .str s', .sl 4 (E.tree.l ks')]]))] := hL5.symm
        have h54 : ∀ x, x < L4.length → x ≠ pr → L5[x]? = L4[x]? := fun x hx hne => by rw [hL5, List.getElem?_append_left (by simpa using hx), List.getElem?_set_ne (Ne.symm hne)]
        have hp5 : L5[p4]? = some (some (.arr 4 (els ++ [.agg [.int .i64 i', .int .i64 k', .str s', .sl 4 (E.tree.l ks')]]))) := by rw [hL5, hp4]; simp
        have g0 : L5[0]? = _ := (h54 0 (by omega) (by omega)).trans ((hx43 0 h0l).trans h0)
        have g1 : L5[1]? = _ := (h54 1 (by omega) (by omega)).trans ((hx43 1 h1l).trans h1)
        have hn5 : (els ++ ([.agg [.int .i64 i', .int .i64 k', .str s', .sl 4 (E.tree.l ks')]] : List AV)).length = jc := by rw [hjc]; simp [hels]
        have hE5 := El.step (L := L) (L5 := L5) (pr := pr) (els := els) (i0 := i0) hel ht' (hk1 _ hk0) hp4 (by omega) (fun x hx hne => (h54 x (by omega) hne).trans (hx43 x hx)) (fun x hge hx => h54 x hx (by omega))
        rw [← hjc] at hE5
        cbv
        ((try cbv) <;> (repeat ((with_reducible refine EW.of ?_); cbv)))
        refine ⟨⟨ks.length - jc, ⟨22, [(9, .int .i64 (jc : Int)), (8, .int .i64 (A.len (E.tree.l ks))), (7, .sl 4 (E.tree.l ks)), (3, .row p4 4 0 jc), (2, .ref 1 4 0 0), (1, .ref 0 4 0 0)]⟩, L5, by omega, VS.pick rfl (.cons ?_ (.cons (Sub.refl _) (.cons (Sub.refl _) (.cons (Sub.refl _) (.cons (Sub.refl _) (.cons (Sub.refl _) .nil)))))), ?_⟩⟩
        · show Tw.Sub (.int .i64 (A.op .add .i64 (j : Int) 1)) _
          rw [hj1]
          exact Sub.refl _
        · rw [hJ]
          exact ⟨jc, _, rfl, by omega, rfl, g0, g1, .inr ⟨p4, _, rfl, hp5, by omega, hn5, hE5⟩⟩
      · cbv
        ((try cbv) <;> (repeat ((with_reducible refine EW.of ?_); cbv)))
        simp only [← List.get?Internal.eq_def]
        rw [show L4.get?Internal pr = _ from hpr4]
        refine chk_iff.2 ⟨by rfl, ?_⟩
        refine ⟨⟨rfl⟩, jc, els ++ [.agg [.int .i64 i', .int .i64 k', .str s', .row pk 4 0 nk]], by rw [hjc]; rfl, by rw [List.take_of_length_le (by omega)], by omega, by show jc * 56 ≤ _; omega, by omega, ?_⟩
        rw [← hp4]
        dsimp only
        generalize hL5 : L4.set pr none ++ [some (.arr _ _)] = L5
        replace hL5 : L5 = L4.set pr none ++ [some (.arr 4 (els ++ [.agg [.int .i64 i', .int .i64 k', .str s', .row pk 4 0 nk]]))] := hL5.symm
        have h54 : ∀ x, x < L4.length → x ≠ pr → L5[x]? = L4[x]? := fun x hx hne => by rw [hL5, List.getElem?_append_left (by simpa using hx), List.getElem?_set_ne (Ne.symm hne)]
        have hp5 : L5[p4]? = some (some (.arr 4 (els ++ [.agg [.int .i64 i', .int .i64 k', .str s', .row pk 4 0 nk]]))) := by rw [hL5, hp4]; simp
        have g0 : L5[0]? = _ := (h54 0 (by omega) (by omega)).trans ((hx43 0 h0l).trans h0)
        have g1 : L5[1]? = _ := (h54 1 (by omega) (by omega)).trans ((hx43 1 h1l).trans h1)
        have hn5 : (els ++ ([.agg [.int .i64 i', .int .i64 k', .str s', .row pk 4 0 nk]] : List AV)).length = jc := by rw [hjc]; simp [hels]
        have hE5 := El.step (L := L) (L5 := L5) (pr := pr) (els := els) (i0 := i0) hel ht' (hk1 _ hk0) hp4 (by omega) (fun x hx hne => (h54 x (by omega) hne).trans (hx43 x hx)) (fun x hge hx => h54 x hx (by omega))
        rw [← hjc] at hE5
        cbv
        ((try cbv) <;> (repeat ((with_reducible refine EW.of ?_); cbv)))
        refine ⟨⟨ks.length - jc, ⟨22, [(9, .int .i64 (jc : Int)), (8, .int .i64 (A.len (E.tree.l ks))), (7, .sl 4 (E.tree.l ks)), (3, .row p4 4 0 jc), (2, .ref 1 4 0 0), (1, .ref 0 4 0 0)]⟩, L5, by omega, VS.pick rfl (.cons ?_ (.cons (Sub.refl _) (.cons (Sub.refl _) (.cons (Sub.refl _) (.cons (Sub.refl _) (.cons (Sub.refl _) .nil)))))), ?_⟩⟩
        · show Tw.Sub (.int .i64 (A.op .add .i64 (j : Int) 1)) _
          rw [hj1]
          exact Sub.refl _
        · rw [hJ]
          exact ⟨jc, _, rfl, by omega, rfl, g0, g1, .inr ⟨p4, _, rfl, hp5, by omega, hn5, hE5⟩⟩
  · have h : (E.tree.l ks).length ≤ j := lt_nf h rfl (A.ok_len _)
    have hjl : j = ks.length := by omega
    have hks : ks.take j = ks := List.take_of_length_le (by omega)
    have h0l := (List.getElem?_eq_some_iff.1 h0).1
    have h1l := (List.getElem?_eq_some_iff.1 h1).1
    rw [hT] at h0
    have hpos : 0 < ks.length := by
      cases path with
      | nil => exact Nat.lt_of_le_of_lt (Nat.zero_le _) hok
      | cons i2 path => obtain ⟨_, _, _, _, ha, _⟩ := hok; exact Nat.lt_of_le_of_lt (Nat.zero_le _) (List.getElem?_eq_some_iff.1 ha).1
    rcases hv with ⟨hj0, rfl⟩ | ⟨pr, els, rfl, hpr, hpr2, hels, hel⟩
    · omega
    ((try cbv) <;> (repeat ((with_reducible refine EW.of ?_); cbv)))
    simp only [← List.get?Internal.eq_def]
    rw [show L.get?Internal 0 = _ from h0]
    refine chk_iff.2 ⟨by rfl, ?_⟩
    generalize hL6 : List.set L 0 _ = L6
    replace hL6 : L6 = L.set 0 (some (.box 4 (.agg [.int .i64 i, .int .i64 k, .str s, .row pr 4 0 j]))) := hL6.symm
    have g0 : L6[0]? = some (some (.box 4 (.agg [.int .i64 i, .int .i64 k, .str s, .row pr 4 0 j]))) := by rw [hL6, List.getElem?_set_self h0l]
    have g6 : ∀ x, x ≠ 0 → L6[x]? = L[x]? := fun x hx => by rw [hL6, List.getElem?_set_ne (Ne.symm hx)]
    have g1 := (g6 1 (by decide)).trans h1
    cbv
    with_reducible refine EW.of ?_
    cbv
    simp only [← List.get?Internal.eq_def]
    rw [show L6.get?Internal 0 = _ from g0]
    cbv
    simp only [← List.get?Internal.eq_def]
    rw [show L6.get?Internal 1 = _ from g1]
    refine chk_iff.2 ⟨by rfl, ?_⟩
    generalize hL7 : List.set L6 1 _ = L7
    replace hL7 : L7 = L6.set 1 (some (.box 4 (.agg [.int .i64 i, .int .i64 k, .str s, .row pr 4 0 j]))) := hL7.symm
    have h6l : 1 < L6.length := by rw [hL6, List.length_set]; exact h1l
    have g17 : L7[1]? = some (some (.box 4 (.agg [.int .i64 i, .int .i64 k, .str s, .row pr 4 0 j]))) := by rw [hL7, List.getElem?_set_self h6l]
    have g7 : ∀ x, x ≠ 0 → x ≠ 1 → L7[x]? = L[x]? := fun x hx hx1 => by rw [hL7, List.getElem?_set_ne (Ne.symm hx1), g6 x hx]
    cbv
    with_reducible refine EW.of ?_
    cbv
    simp only [← List.get?Internal.eq_def]
    rw [show L7.get?Internal 1 = _ from g17]
    refine chk_iff.2 ⟨by rfl, ?_⟩
    have hne : ∀ (x : Nat) (els : List AV), L[x]? = some (some (.arr 4 els)) → L7[x]? = L[x]? := fun x els hx => g7 x (fun e => by rw [e, h0] at hx; cases hx) (fun e => by rw [e, h1] at hx; cases hx)
    have hres : spR E i k s ks (i0 :: path) [] (.ret (.agg [.int .i64 i, .int .i64 k, .str s, .row pr 4 0 j])) L7 := by
      cases path with
      | nil =>
        have hel : els = E.tree.l (ks.take j) := hel
        rw [hks] at hel
        exact ⟨L7, pr, [], by rw [hjl], rfl, ⟨by rw [hne pr els hpr, hpr, hel], hok⟩, by simp, fun _ _ => Nat.zero_le _⟩
      | cons i2 path =>
        rcases hel with ⟨hji, _⟩ | ⟨_, q, ps, ki, kk, s2, kks, a1, a2, a3, a4, a5⟩
        · obtain ⟨_, _, _, _, ha, _⟩ := hok
          have := (List.getElem?_eq_some_iff.1 ha).1
          omega
        · rw [hks] at a2
          exact ⟨L7, pr, q :: ps, by rw [hjl], rfl, ⟨ki, kk, s2, kks, a1, by rw [hne pr els hpr, hpr, a2], Sp.same (fun x hx => by obtain ⟨e, he⟩ := Sp.arr a3 x hx; exact hne x e he) a3⟩, List.nodup_cons.2 ⟨a5, a4⟩, fun _ _ => Nat.zero_le _⟩
    rw [← hR] at hres
    cbv
    exact ⟨_, L7, VSV.refl _ _ _, hres⟩
end Go.Proofs.Ytpjibokaeefhiaa
