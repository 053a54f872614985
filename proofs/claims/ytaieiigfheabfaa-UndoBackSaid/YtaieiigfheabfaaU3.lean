import Derived.Test.YtaieiigfheabfaaU2
/-! Paths, as the program finds them. -/
namespace Go.Proofs.Ytaieiigfheabfaa
open Go.Proofs.Ytaieiigfheabfaa.Tw
def fun62 : AV := .func (.func 85) [] [.ref 0 1 0 0, .ref 1 1 0 0, .ref 2 1 0 0]
def st62 (id : Int) (cur rest : List Int) : Store := [some (.box 1 (.int .i64 id)), some (.box 1 (.row 3 1 0 cur.length)), some (.box 1 fun62), some (.arr 1 (ints (cur ++ rest)))]
def end62 (id : Int) (cur rest : List Int) : Store := [some (.box 1 (.int .i64 id)), some (.box 1 (.row 4 1 0 cur.length)), some (.box 1 fun62), none, some (.arr 1 (ints (cur ++ rest)))]
theorem rn62 {π : List Nat} (h0 : π[0]? = some 0) (h1 : π[1]? = some 1) (h2 : π[2]? = some 2) : Rn π fun62 fun62 := .func _ [] [] _ _ rfl (fun j c d hc hd => by simp at hc) rfl (fun j c d hc hd => by
  match j, hc, hd with
  | 0, hc, hd => simp at hc hd; subst hc hd; exact .ref 1 0 0 h0
  | 1, hc, hd => simp at hc hd; subst hc hd; exact .ref 1 0 0 h1
  | 2, hc, hd => simp at hc hd; subst hc hd; exact .ref 1 0 0 h2
  | j + 3, hc, hd => simp at hc)
theorem call62 {P : Program} {tav : AV} {id : Int} {cur rest c : List Int} {b : Bool} (h : TC P 85 [tav, .ref 0 1 0 0, .ref 1 1 0 0, .ref 2 1 0 0] (st62 id cur rest) (fun x L' => x = .ret (.bool b) ∧ ∃ rest', L' = end62 id c rest')) (ht : tav.pur = true) (bx bk : AO) {R' : AEnd → Store → Prop}
    (hR : ∀ rest', R' (.ret (.bool b)) [some (.box 1 (.int .i64 id)), some (.box 1 (.row 8 1 0 c.length)), some (.box 1 fun62), none, some bx, none, some bk, none, some (.arr 1 (ints (c ++ rest')))]) :
    TC P 85 [tav, .ref 0 1 0 0, .ref 1 1 0 0, .ref 2 1 0 0] [some (.box 1 (.int .i64 id)), some (.box 1 (.row 7 1 0 cur.length)), some (.box 1 fun62), none, some bx, none, some bk, some (.arr 1 (ints (cur ++ rest)))] R' := by
  have one : ∀ {π : List Nat} {e f : AV}, e.cells = [e] → f.cells = [f] → Rn π e f → RnO π (.box 1 e) (.box 1 f) := fun he hf hr => .box 1 _ _ (by rw [he, hf]; rfl) (fun j x y hx hy => by
    rw [he] at hx
    rw [hf] at hy
    cases j with
    | zero => simp at hx hy; subst hx hy; exact hr
    | succ j => simp at hx)
  refine ⟨TCall.frame [0, 1, 2, 7] h.h (by decide) rfl (fun i p hi => ?_) rfl (RnL.get (.cons (.pure ht) (.cons (.ref 1 0 0 rfl) (.cons (.ref 1 0 0 rfl) (.cons (.ref 1 0 0 rfl) .nil))))) ?_⟩
  · match i, hi with
    | 0, hi => simp at hi; subst hi; exact ⟨by simp, fun o ho => ⟨_, rfl, by simp [st62] at ho; subst ho; exact one rfl rfl (.pure rfl)⟩⟩
    | 1, hi => simp at hi; subst hi; exact ⟨by simp, fun o ho => ⟨_, rfl, by simp [st62] at ho; subst ho; exact one rfl rfl (.row 1 0 _ rfl)⟩⟩
    | 2, hi => simp at hi; subst hi; exact ⟨by simp, fun o ho => ⟨_, rfl, by simp [st62] at ho; subst ho; exact one rfl rfl (rn62 rfl rfl rfl)⟩⟩
    | 3, hi => simp at hi; subst hi; exact ⟨by simp, fun o ho => ⟨_, rfl, by simp [st62] at ho; subst ho; exact .pure (ints_pur _)⟩⟩
    | i + 4, hi => simp at hi
  · rintro x L' _ ⟨rfl, rest', rfl⟩
    have hp := renL_pur [0, 1, 2, 7, 8] _ (ints_pur (c ++ rest'))
    have hn : news [some (.box 1 (.int .i64 id)), some (.box 1 (.row 7 1 0 cur.length)), some (.box 1 fun62), none, some bx, none, some bk, some (.arr 1 (ints (cur ++ rest)))] [0, 1, 2, 7] (end62 id c rest') = [0, 1, 2, 7, 8] := by
      simp [news, end62]
    rw [hn]
    have hm : mergeL [some (.box 1 (.int .i64 id)), some (.box 1 (.row 7 1 0 cur.length)), some (.box 1 fun62), none, some bx, none, some bk, some (.arr 1 (ints (cur ++ rest)))] [0, 1, 2, 7] [0, 1, 2, 7, 8] (end62 id c rest') = [some (.box 1 (.int .i64 id)), some (.box 1 (.row 8 1 0 c.length)), some (.box 1 fun62), none, some bx, none, some bk, none, some (.arr 1 (ints (c ++ rest')))] := by
      simp [mergeL, end62, fun62, AO.ren, AV.ren, renL, hp, List.range_succ, List.idxOf?, List.findIdx?_cons]
    rw [hm]
    exact hR rest'
theorem down62 (A : Ar) {P : Program} (hP : P = Try.prog) (id : Int) : ∀ (n : Nat), n ≤ 1000000 → ∀ (t : Tree), within n t → ∀ (cur rest : List Int), cur.length + n ≤ 2000000 →
    TC P 85 [t.av, .ref 0 1 0 0, .ref 1 1 0 0, .ref 2 1 0 0] (st62 id cur rest) (fun x L' => x = .ret (.bool (pathT id t).isSome) ∧ ∃ rest', L' = end62 id (cur ++ (pathT id t).getD []) rest') := by
  intro n
  induction n with
  | zero => exact fun _ t h => h.elim
  | succ n ih =>
  intro hn t hw cur rest hcur
  refine TC.of_ewp A T0 (T0_ok hP) (hP ▸ Try.func85) rfl _ rfl (by simp) ?_
  obtain ⟨i, k, s, ks⟩ := t
  have hpk := avs_pur ks
  have hlk := avs_len ks
  have hwl := hw.len
  simp only [Tree.av, pathT, st62]
  have hcp := ints_pur (cur ++ rest)
  have hcl := ints_len (cur ++ rest)
  simp only [List.length_append] at hcl
  generalize hks : avs ks = aks at hpk hlk
  generalize hcr : ints (cur ++ rest) = cr at hcp hcl
  generalize hcn : cur.length = cn at hcl hcur
  obtain ⟨rr, hr⟩ : ∃ rr, (if i = id then some [] else pathK id ks 0) = rr := ⟨_, rfl⟩
  rw [hr]
  generalize hR : (fun (x : AEnd) (L' : Store) => x = AEnd.ret (.bool rr.isSome) ∧ ∃ rest', L' = end62 id (cur ++ rr.getD []) rest') = R
  obtain ⟨fv, hfv⟩ : ∃ fv, fv = fun62 := ⟨_, rfl⟩
  rw [← hfv]
  cbv
  ((try cbv) <;> (repeat ((with_reducible refine EW.of ?_); cbv)))
  refine bsplit (fun h => ?_) (fun h => ?_)
  · have h : i = id := eq_t h rfl rfl
    ((try cbv) <;> (repeat ((with_reducible refine EW.of ?_); cbv)))
    rw [if_pos h] at hr
    subst hr
    refine ⟨.bool true, _, VSV.settle2 (o := .arr 1 cr) (L0 := [some (.box 1 (.int .i64 id)), some (.box 1 (.row 4 1 0 cn)), some (.box 1 fv), none]) 3 4 (Nat.le_refl _) (Nat.le_succ 4) rfl (uptoL_pur 4 _ hcp) rfl
      (.obj (.keep _ rfl) (by decide) (.obj (.box 1 0 cn) (by decide) (.obj (.keep _ (by rw [hfv]; rfl)) (by decide) (.gone (.nil _ _))))) (.keep _ rfl), ?_⟩
    subst hR
    refine ⟨rfl, rest, ?_⟩
    simp only [Option.getD_some, List.append_nil, end62, hcr, hcn, hfv]
    rfl
  · have h : i ≠ id := eq_f h rfl rfl
    rw [if_neg h] at hr
    ((try cbv) <;> (repeat ((with_reducible refine EW.of ?_); cbv)))
    have hup : ∀ m, uptoL m aks = true := fun m => uptoL_pur m _ hpk
    obtain ⟨J, hJ⟩ : ∃ J : Nat → AFr → Store → Prop, J = fun c fr L => ∃ j : Nat, c = ks.length - j ∧ j ≤ ks.length ∧ pathK id (ks.drop j) j = rr ∧ ∃ rest',
      fr = ⟨33, [(15, .int .i64 j), (14, .int .i64 (A.len aks)), (13, .sl 4 aks), (1, .ref 0 1 0 0), (2, .ref 1 1 0 0), (3, .ref 2 1 0 0)]⟩ ∧ L = [some (.box 1 (.int .i64 id)), some (.box 1 (.row 5 1 0 cn)), some (.box 1 fv), none, some (.box 4 (.agg [.int .i64 i, .int .i64 k, .str s, .sl 4 aks])), some (.arr 1 (ints (cur ++ rest')))] := ⟨_, rfl⟩
    refine TW.loopE A (T0_ok hP) J (n0 := ks.length) (fr0 := ⟨33, [(15, .int .i64 0), (14, .int .i64 (A.len aks)), (13, .sl 4 aks), (1, .ref 0 1 0 0), (2, .ref 1 1 0 0), (3, .ref 2 1 0 0)]⟩) (L0 := [some (.box 1 (.int .i64 id)), some (.box 1 (.row 5 1 0 cn)), some (.box 1 fv), none, some (.box 4 (.agg [.int .i64 i, .int .i64 k, .str s, .sl 4 aks])), some (.arr 1 cr)])
      (VS.settle2 (o := .arr 1 cr) (L0 := [some (.box 1 (.int .i64 id)), some (.box 1 (.row 5 1 0 cn)), some (.box 1 fv), none, some (.box 4 (.agg [.int .i64 i, .int .i64 k, .str s, .sl 4 aks]))]) 3 5 rfl (Nat.le_succ 4) (Nat.le_refl _) rfl (uptoL_pur 5 _ hcp) rfl
        (.obj (.keep _ rfl) (by decide) (.obj (.box 1 0 cn) (by decide) (.obj (.keep _ (by rw [hfv]; rfl)) (by decide) (.gone (.obj (.keep _ (by simp [AO.upto, AV.upto, uptoL, hup])) (by decide) (.nil _ _))))))
        (.cons (.keep _ rfl) (.cons (.keep _ rfl) (.cons (.keep _ (by simp [aget, agetL, AV.upto, hup])) (.cons (.keep _ rfl) (.cons (.keep _ rfl) (.cons (.keep _ rfl) .nil)))))))
      (by rw [hJ]; exact ⟨0, rfl, Nat.zero_le _, hr, rest, rfl, by rw [hcr]⟩) ?_
    intro c fr L hj
    rw [hJ] at hj
    obtain ⟨j, hc, hj, hinv, rest', rfl, rfl⟩ := hj
    have hcp' := ints_pur (cur ++ rest')
    have hcl' := ints_len (cur ++ rest')
    simp only [List.length_append] at hcl'
    generalize hcr' : ints (cur ++ rest') = cr' at hcp' hcl'
    cbv
    ((try cbv) <;> (repeat ((with_reducible refine EW.of ?_); cbv)))
    refine bsplit (fun h => ?_) (fun h => ?_)
    · have h : j < aks.length := lt_nt h rfl (A.ok_len _)
      obtain ⟨t', ht'⟩ : ∃ t', ks[j]? = some t' := ⟨_, List.getElem?_eq_getElem (by omega)⟩
      have hav := avs_get ht'
      rw [hks] at hav
      rw [pathK_drop ht'] at hinv
      have hwt := hw.2 t' (List.mem_of_getElem? ht')
      obtain ⟨i', k', s', ks'⟩ := t'
      simp only [Tree.av] at hav
      have hpk' := avs_pur ks'
      generalize hks' : avs ks' = aks' at hav hpk'
      have hrec := ih (by omega) (.node i' k' s' ks') hwt (cur ++ [(j : Int)]) [] (by simp; omega)
      have htk : cr'.take cn = ints cur := by rw [← hcr', ints_take, ← hcn]; simp
      have hes : ints (cur ++ [(j : Int)] ++ []) = cr'.take cn ++ [.int .i64 (j : Int)] := by rw [htk]; simp [ints]
      have hgl : (cur ++ [(j : Int)]).length = cn + 1 := by simp [hcn]
      simp only [Tree.av, hks'] at hrec
      generalize hq : pathT id (.node i' k' s' ks') = q at hrec hinv
      subst hfv
      ((try cbv) <;> (repeat ((with_reducible refine EW.of ?_); cbv)))
      refine ⟨j, _, rfl, hav, ?_⟩
      cbv
      ((try cbv) <;> (repeat ((with_reducible refine EW.of ?_); cbv)))
      refine ⟨⟨rfl⟩, cn + 1, ints (cur ++ [(j : Int)] ++ []), rfl, hes, by omega, by omega, by omega, ?_⟩
      generalize hea : ints (cur ++ [(j : Int)] ++ []) = ea
      cbv
      ((try cbv) <;> (repeat ((with_reducible refine EW.of ?_); cbv)))
      refine ⟨Ent.of (hP ▸ Try.func85) rfl, ?_⟩
      have htav : (AV.agg [.int .i64 i', .int .i64 k', .str s', .sl 4 aks']).pur = true := by simp only [AV.pur, purL, hpk']; rfl
      have hc62 := fun R' hR' => call62 (R' := R') hrec htav (.box 4 (.agg [.int .i64 i, .int .i64 k, .str s, .sl 4 aks])) (.box 4 (.agg [.int .i64 i', .int .i64 k', .str s', .sl 4 aks'])) hR'
      rw [hgl, hea] at hc62
      refine hc62 _ fun rest2 => ?_
      have hcp2 := ints_pur (cur ++ [(j : Int)] ++ q.getD [] ++ rest2)
      have hcl2 := ints_len (cur ++ [(j : Int)] ++ q.getD [] ++ rest2)
      cases q with
      | none =>
        simp only [Option.getD_none, Option.isSome_none, List.append_nil] at hcp2 hcl2 hinv ⊢
        rw [hgl]
        generalize hce : ints (cur ++ [(j : Int)] ++ rest2) = ce at hcp2 hcl2
        cbv
        ((try cbv) <;> (repeat ((with_reducible refine EW.of ?_); cbv)))
        have hsub : A.op .sub .i64 (A.nat (cn + 1)) 1 = ((cn : Nat) : Int) := (sub_i64 (A := A) (A.ok_nat (cn + 1)) (rfl : (1 : Int) = 1) (by omega) (by omega)).trans (by omega)
        refine ⟨cn, hsub, Nat.le_succ cn, ?_⟩
        cbv
        ((try cbv) <;> (repeat ((with_reducible refine EW.of ?_); cbv)))
        refine ⟨ks.length - (j + 1), ⟨33, [(15, .int .i64 ((j + 1 : Nat) : Int)), (14, .int .i64 (A.len aks)), (13, .sl 4 aks), (1, .ref 0 1 0 0), (2, .ref 1 1 0 0), (3, .ref 2 1 0 0)]⟩, [some (.box 1 (.int .i64 id)), some (.box 1 (.row 5 1 0 cn)), some (.box 1 fun62), none, some (.box 4 (.agg [.int .i64 i, .int .i64 k, .str s, .sl 4 aks])), some (.arr 1 ce)], by omega,
          VS.trans (VS.pick (l := [(15, .int .i64 ((j + 1 : Nat) : Int)), (14, .int .i64 (A.len aks)), (13, .sl 4 aks), (1, .ref 0 1 0 0), (2, .ref 1 1 0 0), (3, .ref 2 1 0 0)]) rfl (.cons (Sub.inc A (by omega)) (.cons (Sub.refl _) (.cons (Sub.refl _) (.cons (Sub.refl _) (.cons (Sub.refl _) (.cons (Sub.refl _) .nil)))))))
            (VS.settle2 (o := .arr 1 ce) (L0 := [some (.box 1 (.int .i64 id)), some (.box 1 (.row 5 1 0 cn)), some (.box 1 fun62), none, some (.box 4 (.agg [.int .i64 i, .int .i64 k, .str s, .sl 4 aks]))]) 8 5 rfl (by decide) (by simp) rfl (uptoL_pur 5 _ hcp2) rfl
              (.obj (.keep _ rfl) (by decide) (.obj (.box 1 0 cn) (by decide) (.obj (.keep _ rfl) (by decide) (.gone (.obj (.keep _ (by simp [AO.upto, AV.upto, uptoL, hup])) (by decide) (.nil _ _))))))
              (.cons (.keep _ rfl) (.cons (.keep _ rfl) (.cons (.keep _ (by simp [aget, agetL, AV.upto, hup])) (.cons (.keep _ rfl) (.cons (.keep _ rfl) (.cons (.keep _ rfl) .nil))))))), ?_⟩
        rw [hJ]
        exact ⟨j + 1, rfl, by omega, hinv, (j : Int) :: rest2, rfl, by rw [← hce]; simp⟩
      | some p =>
        simp only [Option.getD_some, Option.isSome_some] at hcp2 hcl2 hinv ⊢
        subst hinv
        generalize hcm : (cur ++ [(j : Int)] ++ p).length = cm
        generalize hce : ints (cur ++ [(j : Int)] ++ p ++ rest2) = ce at hcp2 hcl2
        cbv
        ((try cbv) <;> (repeat ((with_reducible refine EW.of ?_); cbv)))
        refine ⟨.bool true, _, VSV.settle2 (o := .arr 1 ce) (L0 := [some (.box 1 (.int .i64 id)), some (.box 1 (.row 4 1 0 cm)), some (.box 1 fun62), none]) 8 4 (Nat.le_refl _) (by simp) rfl (uptoL_pur 4 _ hcp2) rfl
          (.obj (.keep _ rfl) (by decide) (.obj (.box 1 0 cm) (by decide) (.obj (.keep _ rfl) (by decide) (.gone (.nil _ _))))) (.keep _ rfl), ?_⟩
        subst hR
        refine ⟨rfl, rest2, ?_⟩
        have e1 : cur ++ (some ((j : Int) :: p)).getD [] = cur ++ [(j : Int)] ++ p := by simp
        rw [e1]
        simp only [end62, hce, hcm]
        rfl
    · have h : aks.length ≤ j := lt_nf h rfl (A.ok_len _)
      ((try cbv) <;> (repeat ((with_reducible refine EW.of ?_); cbv)))
      have hd : ks.drop j = [] := List.drop_eq_nil_of_le (by omega)
      rw [hd] at hinv
      simp only [pathK] at hinv
      subst hinv
      refine ⟨.bool false, _, VSV.settle2 (o := .arr 1 cr') (L0 := [some (.box 1 (.int .i64 id)), some (.box 1 (.row 4 1 0 cn)), some (.box 1 fv), none]) 5 4 (Nat.le_refl _) (Nat.le_succ_of_le (Nat.le_succ 4)) rfl (uptoL_pur 4 _ hcp') rfl
        (.obj (.keep _ rfl) (by decide) (.obj (.box 1 0 cn) (by decide) (.obj (.keep _ (by rw [hfv]; rfl)) (by decide) (.gone (.nil _ _))))) (.keep _ rfl), ?_⟩
      subst hR
      refine ⟨rfl, rest', ?_⟩
      simp only [Option.getD_none, List.append_nil, end62, hcr', hcn, hfv]
      rfl
end Go.Proofs.Ytaieiigfheabfaa

/-! Paths, as the program finds them: from no path. -/
namespace Go.Proofs.Ytaieiigfheabfaa
open Go.Proofs.Ytaieiigfheabfaa.Tw
theorem call62a {P : Program} {tav : AV} {id : Int} {cur rest c : List Int} {b : Bool} (h : TC P 85 [tav, .ref 0 1 0 0, .ref 1 1 0 0, .ref 2 1 0 0] (st62 id cur rest) (fun x L' => x = .ret (.bool b) ∧ ∃ rest', L' = end62 id c rest')) (ht : tav.pur = true) (bx bk : AO) {R' : AEnd → Store → Prop}
    (hR : ∀ rest', R' (.ret (.bool b)) [some (.box 1 (.int .i64 id)), some (.box 1 (.row 6 1 0 c.length)), some (.box 1 fun62), some bx, some bk, none, some (.arr 1 (ints (c ++ rest')))]) :
    TC P 85 [tav, .ref 0 1 0 0, .ref 1 1 0 0, .ref 2 1 0 0] [some (.box 1 (.int .i64 id)), some (.box 1 (.row 5 1 0 cur.length)), some (.box 1 fun62), some bx, some bk, some (.arr 1 (ints (cur ++ rest)))] R' := by
  have one : ∀ {π : List Nat} {e f : AV}, e.cells = [e] → f.cells = [f] → Rn π e f → RnO π (.box 1 e) (.box 1 f) := fun he hf hr => .box 1 _ _ (by rw [he, hf]; rfl) (fun j x y hx hy => by
    rw [he] at hx
    rw [hf] at hy
    cases j with
    | zero => simp at hx hy; subst hx hy; exact hr
    | succ j => simp at hx)
  refine ⟨TCall.frame [0, 1, 2, 5] h.h (by decide) rfl (fun i p hi => ?_) rfl (RnL.get (.cons (.pure ht) (.cons (.ref 1 0 0 rfl) (.cons (.ref 1 0 0 rfl) (.cons (.ref 1 0 0 rfl) .nil))))) ?_⟩
  · match i, hi with
    | 0, hi => simp at hi; subst hi; exact ⟨by simp, fun o ho => ⟨_, rfl, by simp [st62] at ho; subst ho; exact one rfl rfl (.pure rfl)⟩⟩
    | 1, hi => simp at hi; subst hi; exact ⟨by simp, fun o ho => ⟨_, rfl, by simp [st62] at ho; subst ho; exact one rfl rfl (.row 1 0 _ rfl)⟩⟩
    | 2, hi => simp at hi; subst hi; exact ⟨by simp, fun o ho => ⟨_, rfl, by simp [st62] at ho; subst ho; exact one rfl rfl (rn62 rfl rfl rfl)⟩⟩
    | 3, hi => simp at hi; subst hi; exact ⟨by simp, fun o ho => ⟨_, rfl, by simp [st62] at ho; subst ho; exact .pure (ints_pur _)⟩⟩
    | i + 4, hi => simp at hi
  · rintro x L' _ ⟨rfl, rest', rfl⟩
    have hp := renL_pur [0, 1, 2, 5, 6] _ (ints_pur (c ++ rest'))
    have hn : news [some (.box 1 (.int .i64 id)), some (.box 1 (.row 5 1 0 cur.length)), some (.box 1 fun62), some bx, some bk, some (.arr 1 (ints (cur ++ rest)))] [0, 1, 2, 5] (end62 id c rest') = [0, 1, 2, 5, 6] := by
      simp [news, end62]
    rw [hn]
    have hm : mergeL [some (.box 1 (.int .i64 id)), some (.box 1 (.row 5 1 0 cur.length)), some (.box 1 fun62), some bx, some bk, some (.arr 1 (ints (cur ++ rest)))] [0, 1, 2, 5] [0, 1, 2, 5, 6] (end62 id c rest') = [some (.box 1 (.int .i64 id)), some (.box 1 (.row 6 1 0 c.length)), some (.box 1 fun62), some bx, some bk, none, some (.arr 1 (ints (c ++ rest')))] := by
      simp [mergeL, end62, fun62, AO.ren, AV.ren, renL, hp, List.range_succ, List.idxOf?, List.findIdx?_cons]
    rw [hm]
    exact hR rest'
theorem call62b {P : Program} {tav : AV} {id : Int} {cur rest c : List Int} {b : Bool} (h : TC P 85 [tav, .ref 0 1 0 0, .ref 1 1 0 0, .ref 2 1 0 0] (st62 id cur rest) (fun x L' => x = .ret (.bool b) ∧ ∃ rest', L' = end62 id c rest')) (ht : tav.pur = true) (bx bk : AO) {R' : AEnd → Store → Prop}
    (hR : ∀ rest', R' (.ret (.bool b)) [some (.box 1 (.int .i64 id)), some (.box 1 (.row 7 1 0 c.length)), some (.box 1 fun62), some bx, none, some bk, none, some (.arr 1 (ints (c ++ rest')))]) :
    TC P 85 [tav, .ref 0 1 0 0, .ref 1 1 0 0, .ref 2 1 0 0] [some (.box 1 (.int .i64 id)), some (.box 1 (.row 6 1 0 cur.length)), some (.box 1 fun62), some bx, none, some bk, some (.arr 1 (ints (cur ++ rest)))] R' := by
  have one : ∀ {π : List Nat} {e f : AV}, e.cells = [e] → f.cells = [f] → Rn π e f → RnO π (.box 1 e) (.box 1 f) := fun he hf hr => .box 1 _ _ (by rw [he, hf]; rfl) (fun j x y hx hy => by
    rw [he] at hx
    rw [hf] at hy
    cases j with
    | zero => simp at hx hy; subst hx hy; exact hr
    | succ j => simp at hx)
  refine ⟨TCall.frame [0, 1, 2, 6] h.h (by decide) rfl (fun i p hi => ?_) rfl (RnL.get (.cons (.pure ht) (.cons (.ref 1 0 0 rfl) (.cons (.ref 1 0 0 rfl) (.cons (.ref 1 0 0 rfl) .nil))))) ?_⟩
  · match i, hi with
    | 0, hi => simp at hi; subst hi; exact ⟨by simp, fun o ho => ⟨_, rfl, by simp [st62] at ho; subst ho; exact one rfl rfl (.pure rfl)⟩⟩
    | 1, hi => simp at hi; subst hi; exact ⟨by simp, fun o ho => ⟨_, rfl, by simp [st62] at ho; subst ho; exact one rfl rfl (.row 1 0 _ rfl)⟩⟩
    | 2, hi => simp at hi; subst hi; exact ⟨by simp, fun o ho => ⟨_, rfl, by simp [st62] at ho; subst ho; exact one rfl rfl (rn62 rfl rfl rfl)⟩⟩
    | 3, hi => simp at hi; subst hi; exact ⟨by simp, fun o ho => ⟨_, rfl, by simp [st62] at ho; subst ho; exact .pure (ints_pur _)⟩⟩
    | i + 4, hi => simp at hi
  · rintro x L' _ ⟨rfl, rest', rfl⟩
    have hp := renL_pur [0, 1, 2, 6, 7] _ (ints_pur (c ++ rest'))
    have hn : news [some (.box 1 (.int .i64 id)), some (.box 1 (.row 6 1 0 cur.length)), some (.box 1 fun62), some bx, none, some bk, some (.arr 1 (ints (cur ++ rest)))] [0, 1, 2, 6] (end62 id c rest') = [0, 1, 2, 6, 7] := by
      simp [news, end62]
    rw [hn]
    have hm : mergeL [some (.box 1 (.int .i64 id)), some (.box 1 (.row 6 1 0 cur.length)), some (.box 1 fun62), some bx, none, some bk, some (.arr 1 (ints (cur ++ rest)))] [0, 1, 2, 6] [0, 1, 2, 6, 7] (end62 id c rest') = [some (.box 1 (.int .i64 id)), some (.box 1 (.row 7 1 0 c.length)), some (.box 1 fun62), some bx, none, some bk, none, some (.arr 1 (ints (c ++ rest')))] := by
      simp [mergeL, end62, fun62, AO.ren, AV.ren, renL, hp, List.range_succ, List.idxOf?, List.findIdx?_cons]
    rw [hm]
    exact hR rest'
theorem down62n (A : Ar) {P : Program} (hP : P = Try.prog) (id : Int) (n : Nat) (hn1 : n + 1 ≤ 1000000) (t : Tree) (hw : within (n + 1) t) :
    TC P 85 [t.av, .ref 0 1 0 0, .ref 1 1 0 0, .ref 2 1 0 0] [some (.box 1 (.int .i64 id)), some (.box 1 .nils), some (.box 1 fun62)] (fun x L' => x = .ret (.bool (pathT id t).isSome) ∧ (((pathT id t).getD [] = [] ∧ L' = [some (.box 1 (.int .i64 id)), some (.box 1 .nils), some (.box 1 fun62)]) ∨ ∃ rest', L' = [some (.box 1 (.int .i64 id)), some (.box 1 (.row 3 1 0 ((pathT id t).getD []).length)), some (.box 1 fun62), some (.arr 1 (ints ((pathT id t).getD [] ++ rest')))])) := by
  have hn : n ≤ 1000000 := by omega
  refine TC.of_ewp A T0 (T0_ok hP) (hP ▸ Try.func85) rfl _ rfl (by simp) ?_
  obtain ⟨i, k, s, ks⟩ := t
  have hpk := avs_pur ks
  have hlk := avs_len ks
  have hwl := hw.len
  simp only [Tree.av, pathT]
  generalize hks : avs ks = aks at hpk hlk
  obtain ⟨rr, hr⟩ : ∃ rr, (if i = id then some [] else pathK id ks 0) = rr := ⟨_, rfl⟩
  rw [hr]
  generalize hR : (fun (x : AEnd) (L' : Store) => x = AEnd.ret (.bool rr.isSome) ∧ ((rr.getD [] = [] ∧ L' = [some (.box 1 (.int .i64 id)), some (.box 1 .nils), some (.box 1 fun62)]) ∨ ∃ rest', L' = [some (.box 1 (.int .i64 id)), some (.box 1 (.row 3 1 0 (rr.getD []).length)), some (.box 1 fun62), some (.arr 1 (ints (rr.getD [] ++ rest')))])) = R
  obtain ⟨fv, hfv⟩ : ∃ fv, fv = fun62 := ⟨_, rfl⟩
  rw [← hfv]
  have hup : ∀ m, uptoL m aks = true := fun m => uptoL_pur m _ hpk
  cbv
  ((try cbv) <;> (repeat ((with_reducible refine EW.of ?_); cbv)))
  refine bsplit (fun h => ?_) (fun h => ?_)
  · have h : i = id := eq_t h rfl rfl
    ((try cbv) <;> (repeat ((with_reducible refine EW.of ?_); cbv)))
    rw [if_pos h] at hr
    subst hr
    refine ⟨.bool true, _, VSV.trunc 3 (Nat.le_refl _) rfl (by rw [hfv]; rfl), ?_⟩
    subst hR
    exact ⟨rfl, .inl ⟨rfl, by rw [hfv]; rfl⟩⟩
  · have h : i ≠ id := eq_f h rfl rfl
    rw [if_neg h] at hr
    ((try cbv) <;> (repeat ((with_reducible refine EW.of ?_); cbv)))
    obtain ⟨J, hJ⟩ : ∃ J : Nat → AFr → Store → Prop, J = fun c fr L => ∃ j : Nat, c = ks.length - j ∧ j ≤ ks.length ∧ pathK id (ks.drop j) j = rr ∧
      fr = ⟨33, [(15, .int .i64 j), (14, .int .i64 (A.len aks)), (13, .sl 4 aks), (1, .ref 0 1 0 0), (2, .ref 1 1 0 0), (3, .ref 2 1 0 0)]⟩ ∧ (L = [some (.box 1 (.int .i64 id)), some (.box 1 .nils), some (.box 1 fv), some (.box 4 (.agg [.int .i64 i, .int .i64 k, .str s, .sl 4 aks]))] ∨ ∃ rest', L = [some (.box 1 (.int .i64 id)), some (.box 1 (.row 4 1 0 0)), some (.box 1 fv), some (.box 4 (.agg [.int .i64 i, .int .i64 k, .str s, .sl 4 aks])), some (.arr 1 (ints rest'))]) := ⟨_, rfl⟩
    refine TW.loopE A (T0_ok hP) J (n0 := ks.length) (fr0 := ⟨33, [(15, .int .i64 0), (14, .int .i64 (A.len aks)), (13, .sl 4 aks), (1, .ref 0 1 0 0), (2, .ref 1 1 0 0), (3, .ref 2 1 0 0)]⟩) (L0 := [some (.box 1 (.int .i64 id)), some (.box 1 .nils), some (.box 1 fv), some (.box 4 (.agg [.int .i64 i, .int .i64 k, .str s, .sl 4 aks]))])
      (VS.pick rfl (.cons (Sub.refl _) (.cons (Sub.refl _) (.cons (Sub.refl _) (.cons (Sub.refl _) (.cons (Sub.refl _) (.cons (Sub.refl _) .nil)))))))
      (by rw [hJ]; exact ⟨0, rfl, Nat.zero_le _, hr, rfl, .inl rfl⟩) ?_
    intro c fr L hj
    rw [hJ] at hj
    obtain ⟨j, hc, hj, hinv, rfl, rfl | ⟨rest', rfl⟩⟩ := hj
    · cbv
      ((try cbv) <;> (repeat ((with_reducible refine EW.of ?_); cbv)))
      refine bsplit (fun h => ?_) (fun h => ?_)
      · have h : j < aks.length := lt_nt h rfl (A.ok_len _)
        obtain ⟨t', ht'⟩ : ∃ t', ks[j]? = some t' := ⟨_, List.getElem?_eq_getElem (by omega)⟩
        have hav := avs_get ht'
        rw [hks] at hav
        rw [pathK_drop ht'] at hinv
        have hwt := hw.2 t' (List.mem_of_getElem? ht')
        obtain ⟨i', k', s', ks'⟩ := t'
        simp only [Tree.av] at hav
        have hpk' := avs_pur ks'
        generalize hks' : avs ks' = aks' at hav hpk'
        have hrec := down62 A hP id n hn (.node i' k' s' ks') hwt [(j : Int)] [] (by simp; omega)
        simp only [Tree.av, hks'] at hrec
        generalize hq : pathT id (.node i' k' s' ks') = q at hrec hinv
        subst hfv
        ((try cbv) <;> (repeat ((with_reducible refine EW.of ?_); cbv)))
        refine ⟨j, _, rfl, hav, ?_⟩
        cbv
        ((try cbv) <;> (repeat ((with_reducible refine EW.of ?_); cbv)))
        refine ⟨⟨rfl⟩, 1, ints ([(j : Int)] ++ []), rfl, by simp [ints], Nat.zero_le _, by omega, by omega, ?_⟩
        generalize hea : ints ([(j : Int)] ++ []) = ea
        cbv
        ((try cbv) <;> (repeat ((with_reducible refine EW.of ?_); cbv)))
        refine ⟨Ent.of (hP ▸ Try.func85) rfl, ?_⟩
        have htav : (AV.agg [.int .i64 i', .int .i64 k', .str s', .sl 4 aks']).pur = true := by simp only [AV.pur, purL, hpk']; rfl
        have hc62 := fun R' hR' => call62a (R' := R') hrec htav (.box 4 (.agg [.int .i64 i, .int .i64 k, .str s, .sl 4 aks])) (.box 4 (.agg [.int .i64 i', .int .i64 k', .str s', .sl 4 aks'])) hR'
        rw [hea] at hc62
        refine hc62 _ fun rest2 => ?_
        have hcp2 := ints_pur ([(j : Int)] ++ q.getD [] ++ rest2)
        cases q with
        | none =>
          simp only [Option.getD_none, Option.isSome_none, List.append_nil] at hcp2 hinv ⊢
          generalize hce : ints ([(j : Int)] ++ rest2) = ce at hcp2
          cbv
          ((try cbv) <;> (repeat ((with_reducible refine EW.of ?_); cbv)))
          have hsub : A.op .sub .i64 (A.nat 1) 1 = ((0 : Nat) : Int) := (sub_i64 (A := A) (A.ok_nat 1) (rfl : (1 : Int) = 1) (by omega) (by omega)).trans (by omega)
          refine ⟨0, hsub, Nat.zero_le _, ?_⟩
          cbv
          ((try cbv) <;> (repeat ((with_reducible refine EW.of ?_); cbv)))
          refine ⟨ks.length - (j + 1), ⟨33, [(15, .int .i64 ((j + 1 : Nat) : Int)), (14, .int .i64 (A.len aks)), (13, .sl 4 aks), (1, .ref 0 1 0 0), (2, .ref 1 1 0 0), (3, .ref 2 1 0 0)]⟩, [some (.box 1 (.int .i64 id)), some (.box 1 (.row 4 1 0 0)), some (.box 1 fun62), some (.box 4 (.agg [.int .i64 i, .int .i64 k, .str s, .sl 4 aks])), some (.arr 1 ce)], by omega,
            VS.trans (VS.pick (l := [(15, .int .i64 ((j + 1 : Nat) : Int)), (14, .int .i64 (A.len aks)), (13, .sl 4 aks), (1, .ref 0 1 0 0), (2, .ref 1 1 0 0), (3, .ref 2 1 0 0)]) rfl (.cons (Sub.inc A (by omega)) (.cons (Sub.refl _) (.cons (Sub.refl _) (.cons (Sub.refl _) (.cons (Sub.refl _) (.cons (Sub.refl _) .nil)))))))
              (VS.settle2 (o := .arr 1 ce) (L0 := [some (.box 1 (.int .i64 id)), some (.box 1 (.row 4 1 0 0)), some (.box 1 fun62), some (.box 4 (.agg [.int .i64 i, .int .i64 k, .str s, .sl 4 aks]))]) 6 4 rfl (by decide) (by simp) rfl (uptoL_pur 4 _ hcp2) rfl
                (.obj (.keep _ rfl) (by decide) (.obj (.box 1 0 0) (by decide) (.obj (.keep _ rfl) (by decide) (.obj (.keep _ (by simp [AO.upto, AV.upto, uptoL, hup])) (by decide) (.nil _ _)))))
                (.cons (.keep _ rfl) (.cons (.keep _ rfl) (.cons (.keep _ (by simp [aget, agetL, AV.upto, hup])) (.cons (.keep _ rfl) (.cons (.keep _ rfl) (.cons (.keep _ rfl) .nil))))))), ?_⟩
          rw [hJ]
          exact ⟨j + 1, rfl, by omega, hinv, rfl, .inr ⟨(j : Int) :: rest2, by rw [← hce]; rfl⟩⟩
        | some p =>
          simp only [Option.getD_some, Option.isSome_some] at hcp2 hinv ⊢
          subst hinv
          generalize hcm : ([(j : Int)] ++ p).length = cm
          generalize hce : ints ([(j : Int)] ++ p ++ rest2) = ce at hcp2
          cbv
          ((try cbv) <;> (repeat ((with_reducible refine EW.of ?_); cbv)))
          refine ⟨.bool true, _, VSV.settle2 (o := .arr 1 ce) (L0 := [some (.box 1 (.int .i64 id)), some (.box 1 (.row 3 1 0 cm)), some (.box 1 fun62)]) 6 3 (Nat.le_refl _) (by simp) rfl (uptoL_pur 3 _ hcp2) rfl
            (.obj (.keep _ rfl) (by decide) (.obj (.box 1 0 cm) (by decide) (.obj (.keep _ rfl) (by decide) (.nil _ _)))) (.keep _ rfl), ?_⟩
          subst hR
          refine ⟨rfl, .inr ⟨rest2, ?_⟩⟩
          have e1 : (some ((j : Int) :: p)).getD [] = [(j : Int)] ++ p := by simp
          rw [e1, hce, hcm]
          rfl

      · have h : aks.length ≤ j := lt_nf h rfl (A.ok_len _)
        ((try cbv) <;> (repeat ((with_reducible refine EW.of ?_); cbv)))
        have hd : ks.drop j = [] := List.drop_eq_nil_of_le (by omega)
        rw [hd] at hinv
        simp only [pathK] at hinv
        subst hinv
        refine ⟨.bool false, _, VSV.trunc 3 (Nat.le_refl _) rfl (by rw [hfv]; rfl), ?_⟩
        subst hR
        exact ⟨rfl, .inl ⟨rfl, by rw [hfv]; rfl⟩⟩
    · have hcp' := ints_pur rest'
      generalize hcr' : ints rest' = cr' at hcp'
      cbv
      ((try cbv) <;> (repeat ((with_reducible refine EW.of ?_); cbv)))
      refine bsplit (fun h => ?_) (fun h => ?_)
      · have h : j < aks.length := lt_nt h rfl (A.ok_len _)
        obtain ⟨t', ht'⟩ : ∃ t', ks[j]? = some t' := ⟨_, List.getElem?_eq_getElem (by omega)⟩
        have hav := avs_get ht'
        rw [hks] at hav
        rw [pathK_drop ht'] at hinv
        have hwt := hw.2 t' (List.mem_of_getElem? ht')
        obtain ⟨i', k', s', ks'⟩ := t'
        simp only [Tree.av] at hav
        have hpk' := avs_pur ks'
        generalize hks' : avs ks' = aks' at hav hpk'
        have hrec := down62 A hP id n hn (.node i' k' s' ks') hwt [(j : Int)] [] (by simp; omega)
        simp only [Tree.av, hks'] at hrec
        generalize hq : pathT id (.node i' k' s' ks') = q at hrec hinv
        subst hfv
        ((try cbv) <;> (repeat ((with_reducible refine EW.of ?_); cbv)))
        refine ⟨j, _, rfl, hav, ?_⟩
        cbv
        ((try cbv) <;> (repeat ((with_reducible refine EW.of ?_); cbv)))
        refine ⟨⟨rfl⟩, 1, ints ([(j : Int)] ++ []), rfl, by simp [ints], Nat.zero_le _, by omega, by omega, ?_⟩
        generalize hea : ints ([(j : Int)] ++ []) = ea
        cbv
        ((try cbv) <;> (repeat ((with_reducible refine EW.of ?_); cbv)))
        refine ⟨Ent.of (hP ▸ Try.func85) rfl, ?_⟩
        have htav : (AV.agg [.int .i64 i', .int .i64 k', .str s', .sl 4 aks']).pur = true := by simp only [AV.pur, purL, hpk']; rfl
        have hc62 := fun R' hR' => call62b (R' := R') hrec htav (.box 4 (.agg [.int .i64 i, .int .i64 k, .str s, .sl 4 aks])) (.box 4 (.agg [.int .i64 i', .int .i64 k', .str s', .sl 4 aks'])) hR'
        rw [hea] at hc62
        refine hc62 _ fun rest2 => ?_
        have hcp2 := ints_pur ([(j : Int)] ++ q.getD [] ++ rest2)
        cases q with
        | none =>
          simp only [Option.getD_none, Option.isSome_none, List.append_nil] at hcp2 hinv ⊢
          generalize hce : ints ([(j : Int)] ++ rest2) = ce at hcp2
          cbv
          ((try cbv) <;> (repeat ((with_reducible refine EW.of ?_); cbv)))
          have hsub : A.op .sub .i64 (A.nat 1) 1 = ((0 : Nat) : Int) := (sub_i64 (A := A) (A.ok_nat 1) (rfl : (1 : Int) = 1) (by omega) (by omega)).trans (by omega)
          refine ⟨0, hsub, Nat.zero_le _, ?_⟩
          cbv
          ((try cbv) <;> (repeat ((with_reducible refine EW.of ?_); cbv)))
          refine ⟨ks.length - (j + 1), ⟨33, [(15, .int .i64 ((j + 1 : Nat) : Int)), (14, .int .i64 (A.len aks)), (13, .sl 4 aks), (1, .ref 0 1 0 0), (2, .ref 1 1 0 0), (3, .ref 2 1 0 0)]⟩, [some (.box 1 (.int .i64 id)), some (.box 1 (.row 4 1 0 0)), some (.box 1 fun62), some (.box 4 (.agg [.int .i64 i, .int .i64 k, .str s, .sl 4 aks])), some (.arr 1 ce)], by omega,
            VS.trans (VS.pick (l := [(15, .int .i64 ((j + 1 : Nat) : Int)), (14, .int .i64 (A.len aks)), (13, .sl 4 aks), (1, .ref 0 1 0 0), (2, .ref 1 1 0 0), (3, .ref 2 1 0 0)]) rfl (.cons (Sub.inc A (by omega)) (.cons (Sub.refl _) (.cons (Sub.refl _) (.cons (Sub.refl _) (.cons (Sub.refl _) (.cons (Sub.refl _) .nil)))))))
              (VS.settle2 (o := .arr 1 ce) (L0 := [some (.box 1 (.int .i64 id)), some (.box 1 (.row 4 1 0 0)), some (.box 1 fun62), some (.box 4 (.agg [.int .i64 i, .int .i64 k, .str s, .sl 4 aks]))]) 7 4 rfl (by decide) (by simp) rfl (uptoL_pur 4 _ hcp2) rfl
                (.obj (.keep _ rfl) (by decide) (.obj (.box 1 0 0) (by decide) (.obj (.keep _ rfl) (by decide) (.obj (.keep _ (by simp [AO.upto, AV.upto, uptoL, hup])) (by decide) (.nil _ _)))))
                (.cons (.keep _ rfl) (.cons (.keep _ rfl) (.cons (.keep _ (by simp [aget, agetL, AV.upto, hup])) (.cons (.keep _ rfl) (.cons (.keep _ rfl) (.cons (.keep _ rfl) .nil))))))), ?_⟩
          rw [hJ]
          exact ⟨j + 1, rfl, by omega, hinv, rfl, .inr ⟨(j : Int) :: rest2, by rw [← hce]; rfl⟩⟩
        | some p =>
          simp only [Option.getD_some, Option.isSome_some] at hcp2 hinv ⊢
          subst hinv
          generalize hcm : ([(j : Int)] ++ p).length = cm
          generalize hce : ints ([(j : Int)] ++ p ++ rest2) = ce at hcp2
          cbv
          ((try cbv) <;> (repeat ((with_reducible refine EW.of ?_); cbv)))
          refine ⟨.bool true, _, VSV.settle2 (o := .arr 1 ce) (L0 := [some (.box 1 (.int .i64 id)), some (.box 1 (.row 3 1 0 cm)), some (.box 1 fun62)]) 7 3 (Nat.le_refl _) (by simp) rfl (uptoL_pur 3 _ hcp2) rfl
            (.obj (.keep _ rfl) (by decide) (.obj (.box 1 0 cm) (by decide) (.obj (.keep _ rfl) (by decide) (.nil _ _)))) (.keep _ rfl), ?_⟩
          subst hR
          refine ⟨rfl, .inr ⟨rest2, ?_⟩⟩
          have e1 : (some ((j : Int) :: p)).getD [] = [(j : Int)] ++ p := by simp
          rw [e1, hce, hcm]
          rfl

      · have h : aks.length ≤ j := lt_nf h rfl (A.ok_len _)
        ((try cbv) <;> (repeat ((with_reducible refine EW.of ?_); cbv)))
        have hd : ks.drop j = [] := List.drop_eq_nil_of_le (by omega)
        rw [hd] at hinv
        simp only [pathK] at hinv
        subst hinv
        refine ⟨.bool false, _, VSV.settle2 (o := .arr 1 cr') (L0 := [some (.box 1 (.int .i64 id)), some (.box 1 (.row 3 1 0 0)), some (.box 1 fv)]) 4 3 (Nat.le_refl _) (by simp) rfl (uptoL_pur 3 _ hcp') rfl
          (.obj (.keep _ rfl) (by decide) (.obj (.box 1 0 0) (by decide) (.obj (.keep _ (by rw [hfv]; rfl)) (by decide) (.nil _ _)))) (.keep _ rfl), ?_⟩
        subst hR
        exact ⟨rfl, .inr ⟨rest', by simp only [Option.getD_none, List.nil_append, hcr', hfv]; rfl⟩⟩
end Go.Proofs.Ytaieiigfheabfaa

/-! Paths, as the program finds them. -/
namespace Go.Proofs.Ytaieiigfheabfaa
open Go.Proofs.Ytaieiigfheabfaa.Tw
def fun62p : AV := .func (.func 85) [] [.ref 1 1 0 0, .ref 2 1 0 0, .ref 3 1 0 0]
theorem call62n {P : Program} {tav : AV} {id : Int} {p : List Int} {b : Bool} (h : TC P 85 [tav, .ref 0 1 0 0, .ref 1 1 0 0, .ref 2 1 0 0] [some (.box 1 (.int .i64 id)), some (.box 1 .nils), some (.box 1 fun62)] (fun x L' => x = .ret (.bool b) ∧ ((p = [] ∧ L' = [some (.box 1 (.int .i64 id)), some (.box 1 .nils), some (.box 1 fun62)]) ∨ ∃ rest', L' = [some (.box 1 (.int .i64 id)), some (.box 1 (.row 3 1 0 p.length)), some (.box 1 fun62), some (.arr 1 (ints (p ++ rest')))]))) (ht : tav.pur = true) (bx : AO) {R' : AEnd → Store → Prop}
    (hR1 : p = [] → R' (.ret (.bool b)) [some bx, some (.box 1 (.int .i64 id)), some (.box 1 .nils), some (.box 1 fun62p)])
    (hR2 : ∀ rest', R' (.ret (.bool b)) [some bx, some (.box 1 (.int .i64 id)), some (.box 1 (.row 4 1 0 p.length)), some (.box 1 fun62p), some (.arr 1 (ints (p ++ rest')))]) :
    TC P 85 [tav, .ref 1 1 0 0, .ref 2 1 0 0, .ref 3 1 0 0] [some bx, some (.box 1 (.int .i64 id)), some (.box 1 .nils), some (.box 1 fun62p)] R' := by
  have one : ∀ {π : List Nat} {e f : AV}, e.cells = [e] → f.cells = [f] → Rn π e f → RnO π (.box 1 e) (.box 1 f) := fun he hf hr => .box 1 _ _ (by rw [he, hf]; rfl) (fun j x y hx hy => by
    rw [he] at hx
    rw [hf] at hy
    cases j with
    | zero => simp at hx hy; subst hx hy; exact hr
    | succ j => simp at hx)
  have rf : Rn [1, 2, 3] fun62 fun62p := .func _ [] [] _ _ rfl (fun j c d hc hd => by simp at hc) rfl (fun j c d hc hd => by
    match j, hc, hd with
    | 0, hc, hd => simp at hc hd; subst hc hd; exact .ref 1 0 0 rfl
    | 1, hc, hd => simp at hc hd; subst hc hd; exact .ref 1 0 0 rfl
    | 2, hc, hd => simp at hc hd; subst hc hd; exact .ref 1 0 0 rfl
    | j + 3, hc, hd => simp at hc)
  refine ⟨TCall.frame [1, 2, 3] h.h (by decide) rfl (fun i p hi => ?_) rfl (RnL.get (.cons (.pure ht) (.cons (.ref 1 0 0 rfl) (.cons (.ref 1 0 0 rfl) (.cons (.ref 1 0 0 rfl) .nil))))) ?_⟩
  · match i, hi with
    | 0, hi => simp at hi; subst hi; exact ⟨by simp, fun o ho => ⟨_, rfl, by simp at ho; subst ho; exact one rfl rfl (.pure rfl)⟩⟩
    | 1, hi => simp at hi; subst hi; exact ⟨by simp, fun o ho => ⟨_, rfl, by simp at ho; subst ho; exact one rfl rfl (.pure rfl)⟩⟩
    | 2, hi => simp at hi; subst hi; exact ⟨by simp, fun o ho => ⟨_, rfl, by simp at ho; subst ho; exact one rfl rfl rf⟩⟩
    | i + 3, hi => simp at hi
  · rintro x L' _ ⟨rfl, ⟨hp, rfl⟩ | ⟨rest', rfl⟩⟩
    · have hm : mergeL [some bx, some (.box 1 (.int .i64 id)), some (.box 1 .nils), some (.box 1 fun62p)] [1, 2, 3] [1, 2, 3] [some (.box 1 (.int .i64 id)), some (.box 1 .nils), some (.box 1 fun62)] = [some bx, some (.box 1 (.int .i64 id)), some (.box 1 .nils), some (.box 1 fun62p)] := by
        simp [mergeL, fun62, fun62p, AO.ren, AV.ren, renL, List.range_succ, List.idxOf?, List.findIdx?_cons]
      have hn : news [some bx, some (.box 1 (.int .i64 id)), some (.box 1 .nils), some (.box 1 fun62p)] [1, 2, 3] [some (.box 1 (.int .i64 id)), some (.box 1 .nils), some (.box 1 fun62)] = [1, 2, 3] := by simp [news]
      rw [hn, hm]
      exact hR1 hp
    · have hp := renL_pur [1, 2, 3, 4] _ (ints_pur (p ++ rest'))
      have hn : news [some bx, some (.box 1 (.int .i64 id)), some (.box 1 .nils), some (.box 1 fun62p)] [1, 2, 3] [some (.box 1 (.int .i64 id)), some (.box 1 (.row 3 1 0 p.length)), some (.box 1 fun62), some (.arr 1 (ints (p ++ rest')))] = [1, 2, 3, 4] := by simp [news]
      have hm : mergeL [some bx, some (.box 1 (.int .i64 id)), some (.box 1 .nils), some (.box 1 fun62p)] [1, 2, 3] [1, 2, 3, 4] [some (.box 1 (.int .i64 id)), some (.box 1 (.row 3 1 0 p.length)), some (.box 1 fun62), some (.arr 1 (ints (p ++ rest')))] = [some bx, some (.box 1 (.int .i64 id)), some (.box 1 (.row 4 1 0 p.length)), some (.box 1 fun62p), some (.arr 1 (ints (p ++ rest')))] := by
        simp [mergeL, fun62, fun62p, AO.ren, AV.ren, renL, hp, List.range_succ, List.idxOf?, List.findIdx?_cons]
      rw [hn, hm]
      exact hR2 rest'
theorem Path26 (A : Ar) {P : Program} (hP : P = Try.prog) (id : Int) (n : Nat) (hn : n ≤ 1000000) (t : Tree) (hw : within n t) : TPure P 75 [t.av, .int .i64 id] (pathAV (pathT id t)) := by
  obtain ⟨n, rfl⟩ : ∃ m, n = m + 1 := by
    cases n with
    | zero => exact hw.elim
    | succ n => exact ⟨n, rfl⟩
  have hd := down62n A hP id n hn t hw
  refine TPure.of (TC.of_ewp A T0 (T0_ok hP) (hP ▸ Try.func75) rfl _ rfl (by simp) ?_)
  have htp := t.av_pur
  obtain ⟨i, k, s, ks⟩ := t
  simp only [Tree.av] at hd htp ⊢
  generalize avs ks = aks at hd htp
  generalize pathT id (.node i k s ks) = o at hd
  cbv
  ((try cbv) <;> (repeat ((with_reducible refine EW.of ?_); cbv)))
  refine ⟨Ent.of (hP ▸ Try.func85) rfl, ?_⟩
  refine call62n hd htp (.box 4 (.agg [.int .i64 i, .int .i64 k, .str s, .sl 4 aks])) (fun hp => ?_) (fun rest' => ?_)
  · cases o with
    | none =>
      cbv
      ((try cbv) <;> (repeat ((with_reducible refine EW.of ?_); cbv)))
      exact ⟨_, _, VSV.trans (VSV.sub (v' := .tup [.sl 1 [], .bool false]) (Sub.tup2 (Sub.nils 1) (Sub.refl _))) (VSV.pure rfl), rfl, rfl⟩
    | some p =>
      simp only [Option.getD_some] at hp
      subst hp
      cbv
      ((try cbv) <;> (repeat ((with_reducible refine EW.of ?_); cbv)))
      exact ⟨_, _, VSV.trans (VSV.sub (v' := .tup [.sl 1 [], .bool true]) (Sub.tup2 (Sub.nils 1) (Sub.refl _))) (VSV.pure rfl), rfl, rfl⟩
  · cases o with
    | none =>
      simp only [Option.getD_none, List.nil_append]
      generalize ints rest' = ir
      cbv
      ((try cbv) <;> (repeat ((with_reducible refine EW.of ?_); cbv)))
      exact ⟨_, _, VSV.trans (VSV.sub (v' := .tup [.sl 1 [], .bool false]) (Sub.tup2 (Sub.nils 1) (Sub.refl _))) (VSV.pure rfl), rfl, rfl⟩
    | some p =>
      simp only [Option.getD_some]
      have hpp := ints_pur p
      have hpe : pathAV (some p) = .tup [.sl 1 (ints p), .bool true] := rfl
      have htk : ((ints (p ++ rest')).drop 0).take p.length = ints p := by rw [List.drop_zero, ints_take]; simp
      have hle : 0 + p.length ≤ (ints (p ++ rest')).length := by rw [ints_len]; simp
      rw [hpe]
      generalize ints (p ++ rest') = ir at htk hle
      generalize p.length = m at htk hle
      generalize ints p = ip at htk hpp
      cbv
      ((try cbv) <;> (repeat ((with_reducible refine EW.of ?_); cbv)))
      refine ⟨_, _, VSV.trans (VSV.freeze (p := 4) (els := ir) (v' := .tup [.sl 1 ip, .bool true]) rfl (FSub.tup2 (htk ▸ FSub.row 0 m hle) (.sub (Sub.refl _)))) (VSV.pure (by simpa [AV.pur, purL] using hpp)), rfl, rfl⟩
end Go.Proofs.Ytaieiigfheabfaa

/-! The parent, as the program tells it. -/
namespace Go.Proofs.Ytaieiigfheabfaa
open Go.Proofs.Ytaieiigfheabfaa.Tw
theorem Parent15 (A : Ar) {P : Program} (hP : P = Try.prog) (id : Int) (n : Nat) (hn : n ≤ 1000000) (t : Tree) (hw : within n t) : TPure P 58 [t.av, .int .i64 id] (parentAV (parentS t id)) := by
  refine TPure.of (TC.of_ewp A T0 (T0_ok hP) (hP ▸ Try.func58) rfl _ rfl (by simp) ?_)
  have h26 := Path26 A hP id n hn t hw
  have hpl := fun p => pathT_len id t n p hw
  unfold parentS
  have h57 := fun p hp => at57 A hP n t hw p hp
  have hpt := t.av_pur
  obtain ⟨i, k, s, ks⟩ := t
  simp only [Tree.av] at h26 h57 hpt ⊢
  generalize avs ks = aks at h26 h57 hpt
  cases hq : pathT id (.node i k s ks) with
  | none =>
    rw [hq] at h26
    simp only [pathAV, Option.getD_none, Option.isSome_none] at h26
    cbv
    ((try cbv) <;> (repeat ((with_reducible refine EW.of ?_); cbv)))
    refine ⟨Ent.of (hP ▸ Try.func75) rfl, ?_⟩
    refine TC.pure h26 (by simpa [purL, AV.pur] using hpt) ?_
    cbv
    ((try cbv) <;> (repeat ((with_reducible refine EW.of ?_); cbv)))
    refine bsplit (fun h => ?_) (fun h => ?_)
    · ((try cbv) <;> (repeat ((with_reducible refine EW.of ?_); cbv)))
      exact ⟨_, _, VSV.pure rfl, rfl, rfl⟩
    · have h : (0 : Int) ≤ -1 := lt_f h ((sub_i64 (A := A) (A.ok_len []) (rfl : (1 : Int) = 1) (by decide) (by decide)).trans (by decide)) rfl
      omega
  | some p =>
    rw [hq] at h26
    have hpl := hpl p hq
    have hpp := ints_pur p
    have hpn := ints_len p
    simp only [pathAV, Option.getD_some, Option.isSome_some] at h26
    cases p with
    | nil =>
      cbv
      ((try cbv) <;> (repeat ((with_reducible refine EW.of ?_); cbv)))
      refine ⟨Ent.of (hP ▸ Try.func75) rfl, ?_⟩
      refine TC.pure h26 (by simpa [purL, AV.pur] using hpt) ?_
      cbv
      ((try cbv) <;> (repeat ((with_reducible refine EW.of ?_); cbv)))
      refine bsplit (fun h => ?_) (fun h => ?_)
      · ((try cbv) <;> (repeat ((with_reducible refine EW.of ?_); cbv)))
        exact ⟨_, _, VSV.pure rfl, rfl, rfl⟩
      · have h : (0 : Int) ≤ -1 := lt_f h ((sub_i64 (A := A) (A.ok_len []) (rfl : (1 : Int) = 1) (by decide) (by decide)).trans (by decide)) rfl
        omega
    | cons a q =>
      generalize hip : ints (a :: q) = ip at h26 hpp hpn
      simp only [List.length_cons] at hpn hpl
      have h57 := h57 ((a :: q).take q.length) (by simp; omega)
      simp only [upT]
      generalize atT (.node i k s ks) ((a :: q).take q.length) = o at h57
      simp only [atAV] at h57
      generalize o.getD t0 = u at h57
      generalize o.isSome = ob at h57
      obtain ⟨i2, k2, s2, ks2⟩ := u
      simp only [Tree.av] at h57
      generalize avs ks2 = aks2 at h57
      have hes : ints ((a :: q).take q.length) = (ip.take q.length).drop 0 := by rw [← hip, ints_take]; rfl
      have hep := ints_pur ((a :: q).take q.length)
      obtain ⟨l2, hl2⟩ : ∃ l2, (a :: q)[q.length]? = some l2 := ⟨_, List.getElem?_eq_getElem (by simp)⟩
      have hla : ip[q.length]? = some (.int .i64 l2) := by rw [← hip]; exact ints_get hl2
      rw [hl2]
      generalize ints ((a :: q).take q.length) = ie at h57 hes hep
      have hsub : A.op .sub .i64 (A.len ip) 1 = ((q.length : Nat) : Int) := (sub_i64 (A := A) (A.ok_len ip) (rfl : (1 : Int) = 1) (by omega) (by omega)).trans (by omega)
      have hpu : purL [AV.agg [.int .i64 i, .int .i64 k, .str s, .sl 4 aks], AV.slt 1 ie] = true := by
        simp only [AV.pur, purL] at hpt ⊢
        rw [hep]
        simpa using hpt
      generalize q.length = m at *
      cbv
      ((try cbv) <;> (repeat ((with_reducible refine EW.of ?_); cbv)))
      refine ⟨Ent.of (hP ▸ Try.func75) rfl, ?_⟩
      refine TC.pure h26 (by simpa [purL, AV.pur] using hpt) ?_
      cbv
      ((try cbv) <;> (repeat ((with_reducible refine EW.of ?_); cbv)))
      refine bsplit (fun h => ?_) (fun h => ?_)
      · have h : ((m : Nat) : Int) < 0 := lt_t h hsub rfl
        omega
      · ((try cbv) <;> (repeat ((with_reducible refine EW.of ?_); cbv)))
        (refine TW.drawP (A := A) [(9, [some (.box 4 (.agg [.int .i64 0, .int .i64 0, .str ⟨⟨[]⟩⟩, .nils]))]), (10, [some (.box 4 (.agg [.int .i64 i2, .int .i64 k2, .str s2, .sl 4 aks2]))])] (T0_ok hP) (hP ▸ follows_mixed) (by cbv) rfl (by cbv) (by cbv) (by cbv) rfl rfl rfl ?_; cbv)
        refine ⟨m, hsub, m, hsub, rfl, ie, hes, Nat.zero_le _, by omega, ?_⟩
        cbv
        refine ⟨Ent.of (hP ▸ Try.func76) rfl, _, ⟨TPure.sub2 h57 (Sub.refl _) (Sub.slt 1 _), hpu⟩, ?_⟩
        cbv
        refine ⟨rfl, rfl, ?_⟩
        ((try cbv) <;> (repeat ((with_reducible refine EW.of ?_); cbv)))
        (refine TW.draw (A := A) (T0_ok hP) (hP ▸ follows_mixed) (by kernel_rfl) rfl ?_; cbv)
        refine ⟨m, _, hsub, hla, ?_⟩
        cbv
        ((try cbv) <;> (repeat ((with_reducible refine EW.of ?_); cbv)))
        exact ⟨_, _, VSV.pure rfl, rfl, rfl⟩
end Go.Proofs.Ytaieiigfheabfaa

/-! The step StDelete. -/
namespace Go.Proofs.Ytaieiigfheabfaa
open Go.Proofs.Ytaieiigfheabfaa.Tw
def wDel (x : Stp) (t : Tree) : Tree × Int := match findTr x.id t with
  | none => (t, 4)
  | some _ => if t.id = x.id then (t, 90) else match takeT x.id t with
    | some r => (r.2, 0)
    | none => (t, 0)
set_option maxHeartbeats 2000000 in
theorem del50 (A : Ar) (E : Em) {P : Program} (hP : P = Try.prog) (x : Stp) (m : Nat) (d : DT) (L : Store) (q : Nat) (hw : within (m + 1) d.tree) (hd : d.ok L) (hn : (q :: d.foot).Nodup) (hq : L[q]? = some (some (.box 4 d.cell))) : TC P 50 [.ref q 4 0 0, .imm (scells E x)] L (wR q d (wDel x d.tree) L) := by
  have hf := find51 A E hP x.id (m + 1) d L (.ref q 4 0 0) hw hd (.inr ⟨q, rfl, hq⟩)
  have hft := findD_tree x.id (.ref q 4 0 0) d
  have htk := take52b A hP x.id m d L q hw hd hn hq
  have hlq := (List.getElem?_eq_some_iff.1 hq).1
  obtain ⟨op, id, par, pl, tx, i0, k0, s0, ks0⟩ := x
  dsimp only at hf hft htk
  obtain ⟨rr, hrr⟩ : ∃ r, r = wDel ⟨op, id, par, pl, tx, .node i0 k0 s0 ks0⟩ d.tree := ⟨_, rfl⟩
  rw [← hrr]
  unfold wDel at hrr
  dsimp only at hrr
  rw [← hft] at hrr
  unfold scells
  refine TC.of_ewp A T0 (T0_ok hP) (hP ▸ Try.func50) rfl _ rfl (by simp) ?_
  obtain ⟨R, hR⟩ : ∃ R, R = wR q d rr L := ⟨_, rfl⟩
  rw [← hR]
  obtain ⟨fr, hfr⟩ : ∃ r, r = findD id (.ref q 4 0 0) d := ⟨_, rfl⟩
  have hrf := findD_ref id (.ref q 4 0 0) d
  rw [← hfr] at hf hrr hrf
  obtain ⟨di, dk, ds, do1, dks, hdd⟩ : ∃ i k s o ks, d = DT.node i k s o ks := by cases d; exact ⟨_, _, _, _, _, rfl⟩
  obtain ⟨kid, hkid⟩ : ∃ kid, kid = kidAV dks.length do1 := ⟨_, rfl⟩
  have hdc : d.cell = .agg [.int .i64 di, .int .i64 dk, .str ds, kid] := by rw [hdd, hkid]; rfl
  have hdi : d.tree.id = di := by rw [hdd, DT.tree_id]
  have hq' := hq
  rw [hdc] at hq'
  cbv
  ((try cbv) <;> (repeat ((with_reducible refine EW.of ?_); cbv)))
  refine byes (bleM _ _ (Nat.le_refl _)) ?_
  refine ⟨Ent.of (hP ▸ Try.func51) rfl, TC.mono hf ?_⟩
  rintro y L2 ⟨rfl, rfl⟩
  cases fr with
  | none =>
    replace hrr : rr = (d.tree, 4) := hrr
    have hres : R (.ret (.int .i64 4)) L2 := by rw [hR, hrr]; exact ⟨rfl, Nat.le_refl _, fun h => absurd (show (4 : Int) = 0 from h) (by decide), fun _ _ _ => rfl⟩
    cbv
    ((try cbv) <;> (repeat ((with_reducible refine EW.of ?_); cbv)))
    exact ⟨_, L2, VSV.refl _ _ _, hres⟩
  | some r =>
    obtain ⟨a, e⟩ := r
    obtain ⟨p2, j2, rfl⟩ : ∃ p j, a = .ref p 4 j 0 := by
      rcases hrf _ rfl with h | h
      · exact ⟨_, _, h⟩
      · exact h
    cbv
    ((try cbv) <;> (repeat ((with_reducible refine EW.of ?_); cbv)))
    refine TW.draw (A := A) (T0_ok hP) (hP ▸ follows_mixed) (by kernel_rfl) (by rw [Nat.ble_eq]; exact Nat.le_of_eq (List.length.eq_def L2).symm) ?_
    cbv
    (simp only [← List.get?Internal.eq_def]; rw [show L2.get?Internal q = _ from hq']; cbv)
    ((try cbv) <;> (repeat ((with_reducible refine EW.of ?_); cbv)))
    refine bsplit (fun h => ?_) (fun h => ?_)
    · have h : di = id := eq_t h rfl rfl
      replace hrr : rr = (d.tree, 90) := by rw [hrr]; show (if d.tree.id = id then _ else _) = _; rw [if_pos (hdi.trans h)]
      have hres : R (.ret (.int .i64 90)) L2 := by rw [hR, hrr]; exact ⟨rfl, Nat.le_refl _, fun h => absurd (show (90 : Int) = 0 from h) (by decide), fun _ _ _ => rfl⟩
      ((try cbv) <;> (repeat ((with_reducible refine EW.of ?_); cbv)))
      exact ⟨_, L2, VSV.refl _ _ _, hres⟩
    · have h : di ≠ id := eq_f h rfl rfl
      replace hrr : rr = match takeT id d.tree with | some r => (r.2, 0) | none => (d.tree, 0) := by rw [hrr]; show (if d.tree.id = id then _ else _) = _; rw [if_neg (fun e => h (hdi.symm.trans e))]
      ((try cbv) <;> (repeat ((with_reducible refine EW.of ?_); cbv)))
      refine byes (bleM _ _ (Nat.le_refl _)) ?_
      refine ⟨Ent.of (hP ▸ Try.func52) rfl, TC.mono htk ?_⟩
      rintro y L3 ⟨hl3, ⟨htn, rfl, hs3⟩ | ⟨e3, d3, hts, rfl, hq3, hd3, he3, hnd3, hsub3, hs3⟩⟩
      · have hres : R (.ret (.int .i64 0)) L3 := by
          rw [hR, hrr, htn]
          exact ⟨rfl, hl3, fun _ => ⟨d, rfl, (hs3 q hlq).trans hq, DT.ok.same (fun y hy => hs3 y (DT.ok.lt hd y hy)) hd, hn⟩, fun y h1 _ => hs3 y h1⟩
        unfold z4
        cbv
        ((try cbv) <;> (repeat ((with_reducible refine EW.of ?_); cbv)))
        exact ⟨_, L3, VSV.refl _ _ _, hres⟩
      · have hres : R (.ret (.int .i64 0)) L3 := by
          rw [hR, hrr, hts]
          refine ⟨rfl, hl3, fun _ => ⟨d3, rfl, hq3, hd3, List.nodup_cons.2 ⟨fun h => ?_, (List.nodup_append.1 hnd3).1⟩⟩, hs3⟩
          rcases hsub3 q (List.mem_append_left _ h) with h | h
          · exact (List.nodup_cons.1 hn).1 h
          · omega
        obtain ⟨ei, ek, es, eo, eks⟩ := e3
        obtain ⟨kide, hkide⟩ : ∃ kid, kid = kidAV eks.length eo := ⟨_, rfl⟩
        have hec : (DT.node ei ek es eo eks).cell = .agg [.int .i64 ei, .int .i64 ek, .str es, kide] := by rw [hkide]; rfl
        rw [hec]
        cbv
        ((try cbv) <;> (repeat ((with_reducible refine EW.of ?_); cbv)))
        exact ⟨_, L3, VSV.refl _ _ _, hres⟩
end Go.Proofs.Ytaieiigfheabfaa

/-! A node put among the kids of a found one. -/
namespace Go.Proofs.Ytaieiigfheabfaa
open Go.Proofs.Ytaieiigfheabfaa.Tw
def insK (n : Nat) (y : Tree) (ks : List Tree) : List Tree := ks.take n ++ y :: ks.drop n
def insT (n : Nat) (y : Tree) (u : Tree) : Tree := u.put u.txt (insK n y u.kids)
theorem ins_ok {i k : Int} {s : ByteArray} {o : Option Nat} {ks : List DT} {y : DT} {n p' : Nat} {L L' : Store} (hd : (DT.node i k s o ks).ok L) (hn : (DT.node i k s o ks).foot.Nodup) (hy : y.ok L) (hyn : y.foot.Nodup) (hdy : ∀ x ∈ y.foot, x ∉ (DT.node i k s o ks).foot) (hp : L.length ≤ p') (hr : L'[p']? = some (some (.arr 4 ((ks.take n ++ y :: ks.drop n).map DT.cell)))) (h1 : ∀ x ∈ footD ks, L'[x]? = L[x]?) (h2 : ∀ x ∈ y.foot, L'[x]? = L[x]?) :
    (DT.node i k s (some p') (ks.take n ++ y :: ks.drop n)).ok L' ∧ (DT.node i k s (some p') (ks.take n ++ y :: ks.drop n)).foot.Nodup ∧ ∀ x ∈ (DT.node i k s (some p') (ks.take n ++ y :: ks.drop n)).foot, x ∈ footD ks ∨ x ∈ y.foot ∨ x = p' := by
  have hlt := DT.ok.lt hd
  have hlty := DT.ok.lt hy
  have hks : oksD L' ks := oksD.same h1 hd.2
  have hk2 := hks
  rw [← List.take_append_drop n ks, oksD_app] at hk2
  have hnK : (footD ks).Nodup := (List.nodup_append.1 (show (o.toList ++ footD ks).Nodup from hn)).2.1
  have hm : ∀ x ∈ footD ks, x ∈ (DT.node i k s o ks).foot := fun x hx => List.mem_append_right _ hx
  have ef : footD (ks.take n ++ y :: ks.drop n) = footD (ks.take n) ++ (y.foot ++ footD (ks.drop n)) := by rw [footD_app]; rfl
  have ek : footD ks = footD (ks.take n) ++ footD (ks.drop n) := by rw [← footD_app, List.take_append_drop]
  have hnK2 := hnK
  rw [ek] at hnK2
  have a := List.nodup_append.1 hnK2
  have m1 : ∀ x ∈ footD (ks.take n), x ∈ footD ks := fun x hx => by rw [ek]; exact List.mem_append_left _ hx
  have m2 : ∀ x ∈ footD (ks.drop n), x ∈ footD ks := fun x hx => by rw [ek]; exact List.mem_append_right _ hx
  have hall : ∀ x ∈ footD (ks.take n ++ y :: ks.drop n), x ∈ footD ks ∨ x ∈ y.foot := fun x hx => by
    rw [ef] at hx
    rcases List.mem_append.1 hx with hx | hx
    · exact .inl (m1 x hx)
    · rcases List.mem_append.1 hx with hx | hx
      · exact .inr hx
      · exact .inl (m2 x hx)
  refine ⟨⟨hr, oksD_app.2 ⟨hk2.1, DT.ok.same h2 hy, hk2.2⟩⟩, List.nodup_cons.2 ⟨fun h => ?_, ?_⟩, fun x hx => ?_⟩
  · rcases hall p' h with h | h
    · have := hlt p' (hm p' h); omega
    · have := hlty p' h; omega
  · show (footD (ks.take n ++ y :: ks.drop n)).Nodup
    rw [ef]
    refine List.nodup_append.2 ⟨a.1, List.nodup_append.2 ⟨hyn, a.2.1, fun x hx z hz e => ?_⟩, fun x hx z hz e => ?_⟩
    · subst e; exact hdy x hx (hm x (m2 x hz))
    · subst e
      rcases List.mem_append.1 hz with hz | hz
      · exact hdy x hz (hm x (m1 x hx))
      · exact a.2.2 x hx x hz rfl
  · rcases List.mem_cons.1 (show x ∈ p' :: footD (ks.take n ++ y :: ks.drop n) from hx) with rfl | hx
    · exact .inr (.inr rfl)
    · exact (hall x hx).imp (fun h => h) fun h => .inl h
theorem ins_tree {i k : Int} {s : ByteArray} {o : Option Nat} {ks : List DT} {y : DT} {n p' : Nat} : (DT.node i k s (some p') (ks.take n ++ y :: ks.drop n)).tree = insT n y.tree (DT.node i k s o ks).tree := by
  rw [DT.tree, DT.tree, insT, insK, Tree.put, Tree.txt, Tree.kids, treesD_app, treesD, treesD_take, treesD_drop]
theorem putFound (A : Ar) {P : Program} (hP : P = Try.prog) (id : Int) (m : Nat) (d : DT) (L : Store) (q : Nat) (hw : within m d.tree) (hd : d.ok L) (hn : (q :: d.foot).Nodup) (hq : L[q]? = some (some (.box 4 d.cell))) (a : AV) (e : DT) (hf : findD id (.ref q 4 0 0) d = some (a, e)) (y : DT) (hy : y.ok L) (hyn : y.foot.Nodup) (hdy : ∀ x ∈ y.foot, x ∉ q :: d.foot) (n : Nat) (hen : n ≤ e.tree.kids.length) (hel : e.tree.kids.length ≤ 1000000) :
    TC P 73 [a, .int .i64 n, y.cell] L (fun x L' => x = .ret (.tup []) ∧ L.length ≤ L'.length ∧ (∃ d' : DT, d'.tree = modT id (insT n y.tree e.tree) d.tree ∧ L'[q]? = some (some (.box 4 d'.cell)) ∧ d'.ok L' ∧ (q :: d'.foot).Nodup) ∧ ∀ z, z < L.length → z ∉ q :: d.foot → L'[z]? = L[z]?) := by
  have hqn := List.nodup_cons.1 hn
  have hlq := (List.getElem?_eq_some_iff.1 hq).1
  obtain ⟨i, k, s, o, ks, hed⟩ : ∃ i k s o ks, e = DT.node i k s o ks := by cases e; exact ⟨_, _, _, _, _, rfl⟩
  have hkl : e.tree.kids.length = ks.length := by rw [hed, DT.tree, Tree.kids, treesD_len]
  rw [hkl] at hen hel
  have hlty := DT.ok.lt hy
  rcases find_mod id m d (.ref q 4 0 0) L hw hd hqn.2 a e hf with ⟨rfl, rfl, hid⟩ | ⟨hid, p, j, els, rfl, hp, hpL, hej, heo, hen2, hes, hall⟩
  · have hqo : o ≠ some q := fun h => hqn.1 (by rw [hed, h]; exact List.mem_cons_self ..)
    have hdo := hd
    rw [hed] at hdo
    refine TC.mono (put73b A hP L q i k s o ks y n hen hel hdo.1 hqo (by rw [hq, hed]; rfl)) ?_
    rintro x L' ⟨rfl, p', ⟨hp', hl, hrow, hsame⟩, hq'⟩
    have hlt := DT.ok.lt hd
    have hnd : (DT.node i k s o ks).foot.Nodup := by rw [← hed]; exact hqn.2
    have hnd2 := List.nodup_append.1 (show (o.toList ++ footD ks).Nodup from hnd)
    have hsk : ∀ x ∈ footD ks, L'[x]? = L[x]? := fun x hx => hsame x (hlt x (by rw [hed]; exact List.mem_append_right _ hx)) (fun e2 => hqn.1 (by rw [← e2, hed]; exact List.mem_append_right _ hx)) fun e2 => hnd2.2.2 x (by rw [e2]; simp) x hx rfl
    have hsy : ∀ x ∈ y.foot, L'[x]? = L[x]? := fun x hx => hsame x (hlty x hx) (fun e2 => hdy x hx (e2 ▸ List.mem_cons_self ..)) fun e2 => hdy x hx (List.mem_cons_of_mem _ (by rw [hed, e2]; exact List.mem_cons_self ..))
    obtain ⟨u1, u2, u3⟩ := ins_ok (p' := p') (n := n) hdo hnd hy hyn (fun x hx h => hdy x hx (List.mem_cons_of_mem _ (by rw [hed]; exact h))) (by omega) hrow hsk hsy
    refine ⟨rfl, hl, ⟨_, ?_, ?_, u1, List.nodup_cons.2 ⟨fun h => ?_, u2⟩⟩, fun z h1 h2 => hsame z h1 (fun e2 => h2 (e2 ▸ List.mem_cons_self ..)) fun e2 => h2 (List.mem_cons_of_mem _ (by rw [hed, e2]; exact List.mem_cons_self ..))⟩
    · rw [ins_tree (o := o), ← hed]
      have : modT id (insT n y.tree e.tree) e.tree = insT n y.tree e.tree := by
        have h2 := hid
        revert h2
        generalize insT n y.tree e.tree = w
        cases e.tree with
        | node a b c dd => exact fun h2 => by rw [modT, if_pos (show a = id from h2)]
      rw [this]
    · rw [hq', DT.cell]
      have : (ks.take n ++ y :: ks.drop n).length = ks.length + 1 := by simp; omega
      rw [this]
      rfl
    · rcases u3 q h with h | h | h
      · exact hqn.1 (by rw [hed]; exact List.mem_append_right _ h)
      · exact hdy q h (List.mem_cons_self ..)
      · omega
  · have hen3 := List.nodup_cons.1 hen2
    have hpo : o ≠ some p := fun h => hen3.1 (by rw [hed, h]; exact List.mem_cons_self ..)
    have heo' := heo
    rw [hed] at heo'
    refine TC.mono (put73a A hP L p j els i k s o ks y n hen hel heo'.1 hpo hpL (by rw [hej, hed]; rfl)) ?_
    rintro x L' ⟨rfl, p', ⟨hp', hl, hrow, hsame⟩, hpn⟩
    have hlt := DT.ok.lt heo
    have hpl := (List.getElem?_eq_some_iff.1 hpL).1
    have hnd : (DT.node i k s o ks).foot.Nodup := by rw [← hed]; exact hen3.2
    have hnd2 := List.nodup_append.1 (show (o.toList ++ footD ks).Nodup from hnd)
    have hsk : ∀ x ∈ footD ks, L'[x]? = L[x]? := fun x hx => hsame x (hlt x (by rw [hed]; exact List.mem_append_right _ hx)) (fun e2 => hen3.1 (by rw [← e2, hed]; exact List.mem_append_right _ hx)) fun e2 => hnd2.2.2 x (by rw [e2]; simp) x hx rfl
    have hsy : ∀ x ∈ y.foot, L'[x]? = L[x]? := fun x hx => hsame x (hlty x hx) (fun e2 => hdy x hx (List.mem_cons_of_mem _ (e2 ▸ hp))) fun e2 => hdy x hx (List.mem_cons_of_mem _ (hes x (by rw [hed, e2]; exact List.mem_cons_self ..)))
    obtain ⟨u1, u2, u3⟩ := ins_ok (p' := p') (n := n) heo' hnd hy hyn (fun x hx h => hdy x hx (List.mem_cons_of_mem _ (hes x (by rw [hed]; exact h)))) (by omega) hrow hsk hsy
    obtain ⟨u, hu⟩ : ∃ u, u = DT.node i k s (some p') (ks.take n ++ y :: ks.drop n) := ⟨_, rfl⟩
    rw [← hu] at u1 u2 u3
    have huc : u.cell = .agg [.int .i64 i, .int .i64 k, .str s, .row p' 4 0 (ks.length + 1)] := by
      rw [hu, DT.cell]
      have : (ks.take n ++ y :: ks.drop n).length = ks.length + 1 := by simp; omega
      rw [this]
      rfl
    have hlt2 := DT.ok.lt hd
    have hus : ∀ x ∈ u.foot, x ∈ e.foot ∨ x ∉ d.foot := fun x hx => by
      rcases u3 x hx with h | h | h
      · exact .inl (by rw [hed]; exact List.mem_append_right _ h)
      · exact .inr fun h2 => hdy x h (List.mem_cons_of_mem _ h2)
      · exact .inr fun h2 => by have := hlt2 x h2; omega
    obtain ⟨c1, c2, c3, c4⟩ := hall L' u u1 u2 hus (by rw [hpn, huc]) fun x hx h1 h2 => hsame x (hlt2 x hx) h1 fun e2 => h2 (by rw [hed, e2]; exact List.mem_cons_self ..)
    have hqp : q ≠ p := fun e2 => hqn.1 (e2 ▸ hp)
    have hqo : o ≠ some q := fun e2 => hqn.1 (hes q (by rw [hed, e2]; exact List.mem_cons_self ..))
    refine ⟨rfl, hl, ⟨modD id u d, ?_, by rw [hsame q hlq hqp hqo, hq, c2], c1, List.nodup_cons.2 ⟨fun h => ?_, c3⟩⟩, fun z h1 h2 => hsame z h1 (fun e2 => h2 (List.mem_cons_of_mem _ (e2 ▸ hp))) fun e2 => h2 (List.mem_cons_of_mem _ (hes z (by rw [hed, e2]; exact List.mem_cons_self ..)))⟩
    · rw [modD_tree, hu, ins_tree (o := o), ← hed]
    · rcases c4 q h with h | h
      · exact hqn.1 h
      · rcases u3 q h with h | h | h
        · exact hqn.1 (hes q (by rw [hed]; exact List.mem_append_right _ h))
        · exact hdy q h (List.mem_cons_self ..)
        · omega
end Go.Proofs.Ytaieiigfheabfaa

/-! What is known of nodes taken and found: plain. -/
namespace Go.Proofs.Ytaieiigfheabfaa
open Go.Proofs.Ytaieiigfheabfaa.Tw
mutual
theorem take_some (id : Int) : ∀ (t : Tree), (findTr id t).isSome = true → t.id ≠ id → (takeT id t).isSome = true
  | .node i k s ks, h, hi => by
    rw [findTr, if_neg (show ¬ i = id from hi)] at h
    rw [takeT, Option.isSome_map]
    exact takeTs_some id ks h
theorem takeTs_some (id : Int) : ∀ (ts : List Tree), (findTrs id ts).isSome = true → (takeTs id ts).isSome = true
  | [], h => by simp [findTrs] at h
  | t :: ts, h => by
    rw [takeTs]
    by_cases hi : t.id = id
    · rw [if_pos hi]; rfl
    · rw [if_neg hi]
      rw [findTrs] at h
      have h1 := take_some id t
      cases ht : takeT id t with
      | some r => rfl
      | none =>
        cases hf : findTr id t with
        | some u =>
          rw [hf, ht] at h1
          exact absurd (h1 rfl hi) (by simp)
        | none =>
          rw [hf] at h
          have := takeTs_some id ts h
          rw [Option.isSome_map]
          exact this
end
mutual
theorem take_within (id : Int) : ∀ (n : Nat) (t x t' : Tree), within n t → takeT id t = some (x, t') → within n x ∧ within n t'
  | 0, _, _, _, h, _ => h.elim
  | n + 1, .node i k s ks, x, t', h, ht => by
    rw [takeT] at ht
    cases hr : takeTs id ks with
    | none => rw [hr] at ht; cases ht
    | some r =>
      rw [hr] at ht
      cases ht
      obtain ⟨h1, h2, h3⟩ := takeTs_within id n ks r.1 r.2 h.2 hr
      exact ⟨within_mono (Nat.le_succ n) h1, by have := h.1; omega, h3⟩
theorem takeTs_within (id : Int) : ∀ (n : Nat) (ts : List Tree) (x : Tree) (ts' : List Tree), (∀ t ∈ ts, within n t) → takeTs id ts = some (x, ts') → within n x ∧ ts'.length ≤ ts.length ∧ ∀ t ∈ ts', within n t
  | n, [], x, ts', _, h => by rw [takeTs] at h; cases h
  | n, t :: ts, x, ts', hw, h => by
    rw [takeTs] at h
    by_cases hi : t.id = id
    · rw [if_pos hi] at h
      cases h
      exact ⟨hw _ (List.mem_cons_self ..), by simp, fun u hu => hw u (List.mem_cons_of_mem _ hu)⟩
    · rw [if_neg hi] at h
      cases ht : takeT id t with
      | some r =>
        rw [ht] at h
        cases h
        obtain ⟨h1, h2⟩ := take_within id n t r.1 r.2 (hw _ (List.mem_cons_self ..)) ht
        refine ⟨h1, by simp, fun u hu => ?_⟩
        rcases List.mem_cons.1 hu with rfl | hu
        · exact h2
        · exact hw u (List.mem_cons_of_mem _ hu)
      | none =>
        rw [ht] at h
        cases hr : takeTs id ts with
        | none => rw [hr] at h; cases h
        | some r =>
          rw [hr] at h
          cases h
          obtain ⟨h1, h2, h3⟩ := takeTs_within id n ts r.1 r.2 (fun u hu => hw u (List.mem_cons_of_mem _ hu)) hr
          refine ⟨h1, by simp; omega, fun u hu => ?_⟩
          rcases List.mem_cons.1 hu with rfl | hu
          · exact hw _ (List.mem_cons_self ..)
          · exact h3 u hu
end
mutual
theorem find_within (id : Int) : ∀ (n : Nat) (t u : Tree), within n t → findTr id t = some u → within n u
  | 0, _, _, h, _ => h.elim
  | n + 1, .node i k s ks, u, h, hf => by
    rw [findTr] at hf
    by_cases hi : i = id
    · rw [if_pos hi] at hf; cases hf; exact h
    · rw [if_neg hi] at hf
      exact within_mono (Nat.le_succ n) (finds_within id n ks u h.2 hf)
theorem finds_within (id : Int) : ∀ (n : Nat) (ts : List Tree) (u : Tree), (∀ t ∈ ts, within n t) → findTrs id ts = some u → within n u
  | n, [], u, _, h => by rw [findTrs] at h; cases h
  | n, t :: ts, u, hw, h => by
    rw [findTrs] at h
    cases hf : findTr id t with
    | some v =>
      rw [hf] at h
      cases h
      exact find_within id n t _ (hw _ (List.mem_cons_self ..)) hf
    | none =>
      rw [hf] at h
      exact finds_within id n ts u (fun v hv => hw v (List.mem_cons_of_mem _ hv)) h
end
theorem within_kids {n : Nat} {t : Tree} (h : within n t) : t.kids.length ≤ 1000000 := by
  obtain ⟨i, k, s, ks⟩ := t
  exact h.len'
/-- The pointer to a found node. -/
theorem ptr_of {id : Int} {m : Nat} {d e : DT} {L : Store} {q : Nat} {a : AV} (hw : within m d.tree) (hd : d.ok L) (hn : (q :: d.foot).Nodup) (hq : L[q]? = some (some (.box 4 d.cell))) (hf : findD id (.ref q 4 0 0) d = some (a, e)) : PtrOk L a e ∧ e.ok L ∧ within m e.tree := by
  have hft := findD_tree id (.ref q 4 0 0) d
  rw [hf] at hft
  have hwe := find_within id m d.tree e.tree hw hft.symm
  rcases find_mod id m d (.ref q 4 0 0) L hw hd (List.nodup_cons.1 hn).2 a e hf with ⟨rfl, rfl, _⟩ | ⟨_, p, j, els, rfl, hp, hpL, hej, heo, _⟩
  · exact ⟨.inr ⟨q, rfl, hq⟩, hd, hwe⟩
  · exact ⟨.inl ⟨p, j, els, rfl, hpL, hej⟩, heo, hwe⟩
end Go.Proofs.Ytaieiigfheabfaa

/-! The step StMove. -/
namespace Go.Proofs.Ytaieiigfheabfaa
open Go.Proofs.Ytaieiigfheabfaa.Tw
def wMove (x : Stp) (t : Tree) : Tree × Int := match findTr x.id t with
  | none => (t, 4)
  | some u => match findTr x.par t with
    | none => (t, 4)
    | some _ => if t.id = x.id then (t, 90) else if (findTr x.par u).isSome = true then (t, 91) else match takeT x.id t with
      | none => (t, 2)
      | some (y, rest) => match findTr x.par rest with
        | none => (t, 2)
        | some p => if x.pl < 0 ∨ (p.kids.length : Int) < x.pl then (t, 2) else (modT x.par (insT x.pl.toNat y p) rest, 0)
theorem wR_err {q : Nat} {d : DT} {t : Tree} {e : Int} {L : Store} (he : e ≠ 0) : wR q d (t, e) L (.ret (.int .i64 e)) L := ⟨rfl, Nat.le_refl _, fun h => absurd h he, fun _ _ _ => rfl⟩
set_option maxHeartbeats 8000000 in
theorem move53 (A : Ar) (E : Em) {P : Program} (hP : P = Try.prog) (x : Stp) (m : Nat) (d : DT) (L : Store) (q : Nat) (hw : within (m + 1) d.tree) (hd : d.ok L) (hn : (q :: d.foot).Nodup) (hq : L[q]? = some (some (.box 4 d.cell))) : TC P 53 [.ref q 4 0 0, .imm (scells E x)] L (wR q d (wMove x d.tree) L) := by
  have hf1 := find51 A E hP x.id (m + 1) d L (.ref q 4 0 0) hw hd (.inr ⟨q, rfl, hq⟩)
  have hf2 := find51 A E hP x.par (m + 1) d L (.ref q 4 0 0) hw hd (.inr ⟨q, rfl, hq⟩)
  have hft1 := findD_tree x.id (.ref q 4 0 0) d
  have hft2 := findD_tree x.par (.ref q 4 0 0) d
  have htk := take52b A hP x.id m d L q hw hd hn hq
  have hlq := (List.getElem?_eq_some_iff.1 hq).1
  obtain ⟨op, id, par, pl, tx, i0, k0, s0, ks0⟩ := x
  dsimp only at hf1 hf2 hft1 hft2 htk
  obtain ⟨rr, hrr⟩ : ∃ r, r = wMove ⟨op, id, par, pl, tx, .node i0 k0 s0 ks0⟩ d.tree := ⟨_, rfl⟩
  rw [← hrr]
  unfold wMove at hrr
  dsimp only at hrr
  unfold scells
  refine TC.of_ewp A T0 (T0_ok hP) (hP ▸ Try.func53) rfl _ rfl (by simp) ?_
  obtain ⟨R, hR⟩ : ∃ R, R = wR q d rr L := ⟨_, rfl⟩
  rw [← hR]
  obtain ⟨fr1, hfr1⟩ : ∃ r, r = findD id (.ref q 4 0 0) d := ⟨_, rfl⟩
  obtain ⟨fr2, hfr2⟩ : ∃ r, r = findD par (.ref q 4 0 0) d := ⟨_, rfl⟩
  have hrf1 := findD_ref id (.ref q 4 0 0) d
  have hrf2 := findD_ref par (.ref q 4 0 0) d
  rw [← hfr1] at hf1 hft1 hrf1
  rw [← hfr2] at hf2 hft2 hrf2
  obtain ⟨di, dk, ds, do1, dks, hdd⟩ : ∃ i k s o ks, d = DT.node i k s o ks := by cases d; exact ⟨_, _, _, _, _, rfl⟩
  obtain ⟨kid, hkid⟩ : ∃ kid, kid = kidAV dks.length do1 := ⟨_, rfl⟩
  have hdc : d.cell = .agg [.int .i64 di, .int .i64 dk, .str ds, kid] := by rw [hdd, hkid]; rfl
  have hdi : d.tree.id = di := by rw [hdd, DT.tree_id]
  have hq' := hq
  rw [hdc] at hq'
  cbv
  ((try cbv) <;> (repeat ((with_reducible refine EW.of ?_); cbv)))
  refine byes (bleM _ _ (Nat.le_refl _)) ?_
  refine ⟨Ent.of (hP ▸ Try.func51) rfl, TC.mono hf1 ?_⟩
  rintro y L2 ⟨rfl, rfl⟩
  cases fr1 with
  | none =>
    replace hft1 : findTr id d.tree = none := hft1.symm
    rw [hft1] at hrr
    replace hrr : rr = (d.tree, 4) := hrr
    have hres : R (.ret (.int .i64 4)) L2 := by rw [hR, hrr]; exact wR_err (by decide)
    cbv
    ((try cbv) <;> (repeat ((with_reducible refine EW.of ?_); cbv)))
    exact ⟨_, L2, VSV.refl _ _ _, hres⟩
  | some r1 =>
  obtain ⟨a1, e1⟩ := r1
  obtain ⟨hpt1, heo1, hwe1⟩ := ptr_of hw hd hn hq hfr1.symm
  replace hft1 : findTr id d.tree = some e1.tree := hft1.symm
  rw [hft1] at hrr
  dsimp only at hrr
  obtain ⟨p1, j1, rfl⟩ : ∃ p j, a1 = .ref p 4 j 0 := by
    rcases hrf1 _ rfl with h | h
    · exact ⟨_, _, h⟩
    · exact h
  cbv
  ((try cbv) <;> (repeat ((with_reducible refine EW.of ?_); cbv)))
  refine byes (bleM _ _ (Nat.le_refl _)) ?_
  refine ⟨Ent.of (hP ▸ Try.func51) rfl, TC.mono hf2 ?_⟩
  rintro y L2 ⟨rfl, rfl⟩
  cases fr2 with
  | none =>
    replace hft2 : findTr par d.tree = none := hft2.symm
    rw [hft2] at hrr
    replace hrr : rr = (d.tree, 4) := hrr
    have hres : R (.ret (.int .i64 4)) L2 := by rw [hR, hrr]; exact wR_err (by decide)
    cbv
    ((try cbv) <;> (repeat ((with_reducible refine EW.of ?_); cbv)))
    exact ⟨_, L2, VSV.refl _ _ _, hres⟩
  | some r2 =>
  obtain ⟨a2, e2⟩ := r2
  replace hft2 : findTr par d.tree = some e2.tree := hft2.symm
  rw [hft2] at hrr
  dsimp only at hrr
  obtain ⟨p2, j2, rfl⟩ : ∃ p j, a2 = .ref p 4 j 0 := by
    rcases hrf2 _ rfl with h | h
    · exact ⟨_, _, h⟩
    · exact h
  cbv
  ((try cbv) <;> (repeat ((with_reducible refine EW.of ?_); cbv)))
  refine TW.draw (A := A) (T0_ok hP) (hP ▸ follows_mixed) (by kernel_rfl) (by rw [Nat.ble_eq]; exact Nat.le_of_eq (List.length.eq_def L2).symm) ?_
  cbv
  (simp only [← List.get?Internal.eq_def]; rw [show L2.get?Internal q = _ from hq']; cbv)
  ((try cbv) <;> (repeat ((with_reducible refine EW.of ?_); cbv)))
  refine bsplit (fun h => ?_) (fun h => ?_)
  · have h : di = id := eq_t h rfl rfl
    rw [if_pos (hdi.trans h)] at hrr
    have hres : R (.ret (.int .i64 90)) L2 := by rw [hR, hrr]; exact wR_err (by decide)
    ((try cbv) <;> (repeat ((with_reducible refine EW.of ?_); cbv)))
    exact ⟨_, L2, VSV.refl _ _ _, hres⟩
  have h : di ≠ id := eq_f h rfl rfl
  have hidne : d.tree.id ≠ id := fun e => h (hdi.symm.trans e)
  rw [if_neg hidne] at hrr
  have hf3 := find51 A E hP par (m + 1) e1 L2 (.ref p1 4 j1 0) hwe1 heo1 hpt1
  have hft3 := findD_tree par (.ref p1 4 j1 0) e1
  have hrf3 := findD_ref par (.ref p1 4 j1 0) e1
  obtain ⟨fr3, hfr3⟩ : ∃ r, r = findD par (.ref p1 4 j1 0) e1 := ⟨_, rfl⟩
  rw [← hfr3] at hf3 hft3 hrf3
  ((try cbv) <;> (repeat ((with_reducible refine EW.of ?_); cbv)))
  refine byes (bleM _ _ (Nat.le_refl _)) ?_
  refine ⟨Ent.of (hP ▸ Try.func51) rfl, TC.mono hf3 ?_⟩
  rintro y L2 ⟨rfl, rfl⟩
  cases fr3 with
  | some r3 =>
    obtain ⟨a3, e3⟩ := r3
    obtain ⟨p3, j3, rfl⟩ : ∃ p j, a3 = .ref p 4 j 0 := by
      rcases hrf3 _ rfl with h | h
      · exact ⟨_, _, h⟩
      · exact h
    rw [if_pos (by rw [← hft3]; rfl)] at hrr
    have hres : R (.ret (.int .i64 91)) L2 := by rw [hR, hrr]; exact wR_err (by decide)
    cbv
    ((try cbv) <;> (repeat ((with_reducible refine EW.of ?_); cbv)))
    exact ⟨_, L2, VSV.refl _ _ _, hres⟩
  | none =>
  rw [if_neg (by rw [← hft3]; simp)] at hrr
  cbv
  ((try cbv) <;> (repeat ((with_reducible refine EW.of ?_); cbv)))
  refine byes (bleM _ _ (Nat.le_refl _)) ?_
  refine ⟨Ent.of (hP ▸ Try.func52) rfl, TC.mono htk ?_⟩
  rintro y L3 ⟨hl3, ⟨htn, rfl, hs3⟩ | ⟨e3, d3, hts, rfl, hq3, hd3, he3, hnd3, hsub3, hs3⟩⟩
  · have := take_some id d.tree (by rw [hft1]; rfl) hidne
    rw [htn] at this
    exact absurd this (by simp)
  rw [hts] at hrr
  dsimp only at hrr
  obtain ⟨hwe3, hw3⟩ := take_within id (m + 1) d.tree e3.tree d3.tree hw hts
  have hn3 : (q :: d3.foot).Nodup := List.nodup_cons.2 ⟨fun h => by
    rcases hsub3 q (List.mem_append_left _ h) with h | h
    · exact (List.nodup_cons.1 hn).1 h
    · omega, (List.nodup_append.1 hnd3).1⟩
  have hqe : ∀ y ∈ e3.foot, y ∉ q :: d3.foot := fun y hy h => by
    rcases List.mem_cons.1 h with rfl | h
    · rcases hsub3 y (List.mem_append_right _ hy) with h | h
      · exact (List.nodup_cons.1 hn).1 h
      · omega
    · exact (List.nodup_append.1 hnd3).2.2 y h y hy rfl
  obtain ⟨ei, ek, es, eo, eks, hed⟩ : ∃ i k s o ks, e3 = DT.node i k s o ks := by cases e3; exact ⟨_, _, _, _, _, rfl⟩
  obtain ⟨kide, hkide⟩ : ∃ kid, kid = kidAV eks.length eo := ⟨_, rfl⟩
  have hec : e3.cell = .agg [.int .i64 ei, .int .i64 ek, .str es, kide] := by rw [hed, hkide]; rfl
  obtain ⟨b, hb⟩ : ∃ b, b = L3.length := ⟨_, rfl⟩
  obtain ⟨L4, hL4⟩ : ∃ M : Store, M = L3 ++ [some (AO.box 4 (.agg [.int .i64 0, .int .i64 0, .str ⟨⟨[]⟩⟩, .nils]))] := ⟨_, rfl⟩
  have hg4 : L4[b]? = some (some (.box 4 (.agg [.int .i64 0, .int .i64 0, .str ⟨⟨[]⟩⟩, .nils]))) := by rw [hL4, hb]; simp
  have hl4 : L4.length = L3.length + 1 := by rw [hL4]; simp
  rw [hec]
  cbv
  ((try cbv) <;> (repeat ((with_reducible refine EW.of ?_); cbv)))
  refine byes (bleM _ _ (Nat.le_trans (Nat.le_of_eq (List.length.eq_def L2).symm) (Nat.le_trans hl3 (Nat.le_of_eq (List.length.eq_def L3))))) ?_
  simp only [← List.length.eq_def, ← List.append.eq_def, ← List.get?Internal.eq_def]
  rw [show L3.append [some (AO.box 4 (.agg [.int .i64 0, .int .i64 0, .str ⟨⟨[]⟩⟩, .nils]))] = L4 from hL4.symm, ← hb]
  rw [show L4.get?Internal b = _ from hg4]
  refine chk_iff.2 ⟨by rw [hkide]; cases eo <;> rfl, ?_⟩
  generalize hL5 : List.set L4 b _ = L5
  replace hL5 : L5 = L4.set b (some (AO.box 4 (.agg [.int .i64 ei, .int .i64 ek, .str es, kide]))) := hL5.symm
  have hb5 : L5[b]? = some (some (.box 4 (.agg [.int .i64 ei, .int .i64 ek, .str es, kide]))) := by rw [hL5, List.getElem?_set_self (by omega)]
  have h53 : ∀ y, y < L3.length → L5[y]? = L3[y]? := fun y hy => by rw [hL5, List.getElem?_set_ne (by omega), hL4, List.getElem?_append_left hy]
  have hl5 : L5.length = L3.length + 1 := by rw [hL5, List.length_set, hl4]
  have hd5 : d3.ok L5 := DT.ok.same (fun y hy => h53 y (DT.ok.lt hd3 y hy)) hd3
  have he5 : e3.ok L5 := DT.ok.same (fun y hy => h53 y (DT.ok.lt he3 y hy)) he3
  have hq5 : L5[q]? = some (some (.box 4 d3.cell)) := (h53 q (by omega)).trans hq3
  have hf5 := find51 A E hP par (m + 1) d3 L5 (.ref q 4 0 0) hw3 hd5 (.inr ⟨q, rfl, hq5⟩)
  have hft5 := findD_tree par (.ref q 4 0 0) d3
  have hrf5 := findD_ref par (.ref q 4 0 0) d3
  obtain ⟨fr5, hfr5⟩ : ∃ r, r = findD par (.ref q 4 0 0) d3 := ⟨_, rfl⟩
  rw [← hfr5] at hf5 hft5 hrf5
  have hfr : ∀ y, y < L2.length → y ∉ q :: d.foot → L5[y]? = L2[y]? := fun y h1 h2 => by rw [h53 y (by omega), hs3 y h1 h2]
  have herr : ∀ t, wR q d (t, 2) L2 (.ret (.int .i64 2)) L5 := fun t => ⟨rfl, by omega, fun h => absurd (show (2 : Int) = 0 from h) (by decide), hfr⟩
  cbv
  ((try cbv) <;> (repeat ((with_reducible refine EW.of ?_); cbv)))
  refine byes (bleM _ _ (Nat.le_trans (Nat.le_of_eq (List.length.eq_def L2).symm) (Nat.le_trans (show L2.length ≤ L5.length by omega) (Nat.le_of_eq (List.length.eq_def L5))))) ?_
  refine ⟨Ent.of (hP ▸ Try.func51) rfl, TC.mono hf5 ?_⟩
  rintro y L6 ⟨rfl, rfl⟩
  cases fr5 with
  | none =>
    replace hft5 : findTr par d3.tree = none := hft5.symm
    rw [hft5] at hrr
    replace hrr : rr = (d.tree, 2) := hrr
    have hres : R (.ret (.int .i64 2)) L6 := by rw [hR, hrr]; exact herr _
    cbv
    ((try cbv) <;> (repeat ((with_reducible refine EW.of ?_); cbv)))
    refine TW.draw (A := A) (T0_ok hP) (hP ▸ follows_mixed) (by kernel_rfl) (by rw [Nat.ble_eq]; exact Nat.le_trans (Nat.le_of_eq (List.length.eq_def L2).symm) (show L2.length ≤ L6.length by omega)) ?_
    cbv
    ((try cbv) <;> (repeat ((with_reducible refine EW.of ?_); cbv)))
    exact ⟨_, L6, VSV.refl _ _ _, hres⟩
  | some r5 =>
  obtain ⟨a5, e5⟩ := r5
  have hr5 := hrf5 _ rfl
  obtain ⟨hpt5, heo5, hwe5⟩ := ptr_of hw3 hd5 hn3 hq5 hfr5.symm
  replace hft5 : findTr par d3.tree = some e5.tree := hft5.symm
  rw [hft5] at hrr
  dsimp only at hrr
  have hkl5 := within_kids hwe5
  have hput := fun (n : Nat) (h : n ≤ e5.tree.kids.length) => putFound A hP par (m + 1) d3 L6 q hw3 hd5 hn3 hq5 a5 e5 hfr5.symm e3 he5 (List.nodup_append.1 hnd3).2.1 hqe n h hkl5
  rw [hec] at hput
  obtain ⟨p5, j5, rfl⟩ : ∃ p j, a5 = .ref p 4 j 0 := by
    rcases hr5 with h | h
    · exact ⟨_, _, h⟩
    · exact h
  obtain ⟨i5, k5, s5, o5, ks5, hed5⟩ : ∃ i k s o ks, e5 = DT.node i k s o ks := by cases e5; exact ⟨_, _, _, _, _, rfl⟩
  obtain ⟨nk, hnk⟩ : ∃ n, n = ks5.length := ⟨_, rfl⟩
  have hek5 : e5.tree.kids.length = nk := by rw [hed5, DT.tree, Tree.kids, treesD_len, hnk]
  rw [hek5] at hput hkl5
  have hec5 : e5.cell = .agg [.int .i64 i5, .int .i64 k5, .str s5, kidAV nk o5] := by rw [hed5, hnk]; rfl
  cbv
  ((try cbv) <;> (repeat ((with_reducible refine EW.of ?_); cbv)))
  refine TW.draw (A := A) (T0_ok hP) (hP ▸ follows_mixed) (by kernel_rfl) (by rw [Nat.ble_eq]; exact Nat.le_trans (Nat.le_of_eq (List.length.eq_def L2).symm) (show L2.length ≤ L6.length by omega)) ?_
  cbv
  refine bsplit (fun h6 => ?_) (fun h6 => ?_)
  · have h6 : pl < 0 := lt_t h6 rfl rfl
    rw [if_pos (.inl h6)] at hrr
    have hres : R (.ret (.int .i64 2)) L6 := by rw [hR, hrr]; exact herr _
    cbv
    ((try cbv) <;> (repeat ((with_reducible refine EW.of ?_); cbv)))
    exact ⟨_, L6, VSV.refl _ _ _, hres⟩
  have h6 : ¬ pl < 0 := by have h6' : A.lt pl 0 = false := h6; rw [A.ok_lt] at h6'; simpa using h6'
  obtain ⟨n, rfl⟩ : ∃ n : Nat, pl = (n : Int) := ⟨pl.toNat, by omega⟩
  have hc1 : nk < n → rr = (d.tree, 2) := fun h7 => by
    have hc : (n : Int) < 0 ∨ ((e5.tree.kids.length : Nat) : Int) < (n : Int) := .inr (by rw [hek5]; exact Int.ofNat_lt.2 h7)
    rw [hrr]
    exact if_pos hc
  have hc2 : n ≤ nk → rr = (modT par (insT n e3.tree e5.tree) d3.tree, 0) := fun h7 => by
    have hc : ¬ ((n : Int) < 0 ∨ ((e5.tree.kids.length : Nat) : Int) < (n : Int)) := fun h8 => by
      rw [hek5] at h8
      rcases h8 with h8 | h8
      · exact absurd h8 (Int.not_lt.2 (Int.natCast_nonneg n))
      · exact absurd (Int.ofNat_lt.1 h8) (Nat.not_lt.2 h7)
    rw [hrr]
    exact if_neg hc
  clear hrr
  cbv
  rcases hpt5 with ⟨p6, j6, els6, hpe, hpL, hpx⟩ | ⟨p6, hpe, hpL⟩
  · cases hpe
    rw [hec5] at hpx
    cases o5 with
    | none =>
      have hLEN : A.len [] = (nk : Int) := by
        have : ks5 = [] := by rw [hed5] at heo5; exact heo5.1
        rw [A.ok_len, hnk, this]; rfl
      replace hpx : els6[j5]? = some (.agg [.int .i64 i5, .int .i64 k5, .str s5, .sl 4 []]) := hpx
      (simp only [← List.get?Internal.eq_def]; rw [show L6.get?Internal p5 = _ from hpL]; cbv)
      refine ⟨_, hpx, ?_⟩
      cbv
      ((try cbv) <;> (repeat ((with_reducible refine EW.of ?_); cbv)))
      refine bsplit (fun h7 => ?_) (fun h7 => ?_)
      · have h7 : nk < n := lt_nt h7 hLEN rfl
        have hrr := hc1 h7
        have hres : R (.ret (.int .i64 2)) L6 := by rw [hR, hrr]; exact herr _
        cbv
        ((try cbv) <;> (repeat ((with_reducible refine EW.of ?_); cbv)))
        exact ⟨_, L6, VSV.refl _ _ _, hres⟩
      have h7 : n ≤ nk := lt_nf h7 hLEN rfl
      have hrr := hc2 h7
      replace hput := hput n h7
      ((try cbv) <;> (repeat ((with_reducible refine EW.of ?_); cbv)))
      refine TW.drawT (A := A) (T0_ok hP) (hP ▸ follows_mixed) (by kernel_rfl) rfl (by kernel_rfl) rfl rfl (by rw [Nat.ble_eq]; exact Nat.le_trans (Nat.le_of_eq (List.length.eq_def L2).symm) (show L2.length ≤ L6.length by omega)) ?_
      cbv
      (simp only [← List.get?Internal.eq_def]; rw [show L6.get?Internal b = _ from hb5]; cbv)
      refine byes (bleM _ _ (Nat.le_trans (Nat.le_of_eq (List.length.eq_def L2).symm) (Nat.le_trans (show L2.length ≤ L6.length by omega) (Nat.le_of_eq (List.length.eq_def L6))))) ?_
      refine ⟨Ent.of (hP ▸ Try.func73) rfl, TC.mono hput ?_⟩
      rintro y L7 ⟨rfl, hl7, ⟨d7, ht7, hq7, hd7, hn7⟩, hs7⟩
      have hres : R (.ret (.int .i64 0)) L7 := by
        rw [hR, hrr]
        refine ⟨rfl, by omega, fun _ => ⟨d7, ht7, hq7, hd7, hn7⟩, fun y h1 h2 => ?_⟩
        rw [hs7 y (by omega) fun h => ?_, hfr y h1 h2]
        rcases List.mem_cons.1 h with h | h
        · exact h2 (h ▸ List.mem_cons_self ..)
        · rcases hsub3 y (List.mem_append_left _ h) with h | h
          · exact h2 (List.mem_cons_of_mem _ h)
          · omega
      cbv
      ((try cbv) <;> (repeat ((with_reducible refine EW.of ?_); cbv)))
      exact ⟨_, L7, VSV.refl _ _ _, hres⟩
    | some o6 =>
      have hLEN : A.nat nk = (nk : Int) := A.ok_nat nk
      replace hpx : els6[j5]? = some (.agg [.int .i64 i5, .int .i64 k5, .str s5, .row o6 4 0 nk]) := hpx
      (simp only [← List.get?Internal.eq_def]; rw [show L6.get?Internal p5 = _ from hpL]; cbv)
      refine ⟨_, hpx, ?_⟩
      cbv
      ((try cbv) <;> (repeat ((with_reducible refine EW.of ?_); cbv)))
      refine bsplit (fun h7 => ?_) (fun h7 => ?_)
      · have h7 : nk < n := lt_nt h7 hLEN rfl
        have hrr := hc1 h7
        have hres : R (.ret (.int .i64 2)) L6 := by rw [hR, hrr]; exact herr _
        cbv
        ((try cbv) <;> (repeat ((with_reducible refine EW.of ?_); cbv)))
        exact ⟨_, L6, VSV.refl _ _ _, hres⟩
      have h7 : n ≤ nk := lt_nf h7 hLEN rfl
      have hrr := hc2 h7
      replace hput := hput n h7
      ((try cbv) <;> (repeat ((with_reducible refine EW.of ?_); cbv)))
      refine TW.drawT (A := A) (T0_ok hP) (hP ▸ follows_mixed) (by kernel_rfl) rfl (by kernel_rfl) rfl rfl (by rw [Nat.ble_eq]; exact Nat.le_trans (Nat.le_of_eq (List.length.eq_def L2).symm) (show L2.length ≤ L6.length by omega)) ?_
      cbv
      (simp only [← List.get?Internal.eq_def]; rw [show L6.get?Internal b = _ from hb5]; cbv)
      refine byes (bleM _ _ (Nat.le_trans (Nat.le_of_eq (List.length.eq_def L2).symm) (Nat.le_trans (show L2.length ≤ L6.length by omega) (Nat.le_of_eq (List.length.eq_def L6))))) ?_
      refine ⟨Ent.of (hP ▸ Try.func73) rfl, TC.mono hput ?_⟩
      rintro y L7 ⟨rfl, hl7, ⟨d7, ht7, hq7, hd7, hn7⟩, hs7⟩
      have hres : R (.ret (.int .i64 0)) L7 := by
        rw [hR, hrr]
        refine ⟨rfl, by omega, fun _ => ⟨d7, ht7, hq7, hd7, hn7⟩, fun y h1 h2 => ?_⟩
        rw [hs7 y (by omega) fun h => ?_, hfr y h1 h2]
        rcases List.mem_cons.1 h with h | h
        · exact h2 (h ▸ List.mem_cons_self ..)
        · rcases hsub3 y (List.mem_append_left _ h) with h | h
          · exact h2 (List.mem_cons_of_mem _ h)
          · omega
      cbv
      ((try cbv) <;> (repeat ((with_reducible refine EW.of ?_); cbv)))
      exact ⟨_, L7, VSV.refl _ _ _, hres⟩
  · cases hpe
    rw [hec5] at hpL
    cases o5 with
    | none =>
      have hLEN : A.len [] = (nk : Int) := by
        have : ks5 = [] := by rw [hed5] at heo5; exact heo5.1
        rw [A.ok_len, hnk, this]; rfl
      replace hpL : L6[p5]? = some (some (.box 4 (.agg [.int .i64 i5, .int .i64 k5, .str s5, .sl 4 []]))) := hpL
      (simp only [← List.get?Internal.eq_def]; rw [show L6.get?Internal p5 = _ from hpL]; cbv)
      cbv
      ((try cbv) <;> (repeat ((with_reducible refine EW.of ?_); cbv)))
      refine bsplit (fun h7 => ?_) (fun h7 => ?_)
      · have h7 : nk < n := lt_nt h7 hLEN rfl
        have hrr := hc1 h7
        have hres : R (.ret (.int .i64 2)) L6 := by rw [hR, hrr]; exact herr _
        cbv
        ((try cbv) <;> (repeat ((with_reducible refine EW.of ?_); cbv)))
        exact ⟨_, L6, VSV.refl _ _ _, hres⟩
      have h7 : n ≤ nk := lt_nf h7 hLEN rfl
      have hrr := hc2 h7
      replace hput := hput n h7
      ((try cbv) <;> (repeat ((with_reducible refine EW.of ?_); cbv)))
      refine TW.drawT (A := A) (T0_ok hP) (hP ▸ follows_mixed) (by kernel_rfl) rfl (by kernel_rfl) rfl rfl (by rw [Nat.ble_eq]; exact Nat.le_trans (Nat.le_of_eq (List.length.eq_def L2).symm) (show L2.length ≤ L6.length by omega)) ?_
      cbv
      (simp only [← List.get?Internal.eq_def]; rw [show L6.get?Internal b = _ from hb5]; cbv)
      refine byes (bleM _ _ (Nat.le_trans (Nat.le_of_eq (List.length.eq_def L2).symm) (Nat.le_trans (show L2.length ≤ L6.length by omega) (Nat.le_of_eq (List.length.eq_def L6))))) ?_
      refine ⟨Ent.of (hP ▸ Try.func73) rfl, TC.mono hput ?_⟩
      rintro y L7 ⟨rfl, hl7, ⟨d7, ht7, hq7, hd7, hn7⟩, hs7⟩
      have hres : R (.ret (.int .i64 0)) L7 := by
        rw [hR, hrr]
        refine ⟨rfl, by omega, fun _ => ⟨d7, ht7, hq7, hd7, hn7⟩, fun y h1 h2 => ?_⟩
        rw [hs7 y (by omega) fun h => ?_, hfr y h1 h2]
        rcases List.mem_cons.1 h with h | h
        · exact h2 (h ▸ List.mem_cons_self ..)
        · rcases hsub3 y (List.mem_append_left _ h) with h | h
          · exact h2 (List.mem_cons_of_mem _ h)
          · omega
      cbv
      ((try cbv) <;> (repeat ((with_reducible refine EW.of ?_); cbv)))
      exact ⟨_, L7, VSV.refl _ _ _, hres⟩
    | some o6 =>
      have hLEN : A.nat nk = (nk : Int) := A.ok_nat nk
      replace hpL : L6[p5]? = some (some (.box 4 (.agg [.int .i64 i5, .int .i64 k5, .str s5, .row o6 4 0 nk]))) := hpL
      (simp only [← List.get?Internal.eq_def]; rw [show L6.get?Internal p5 = _ from hpL]; cbv)
      cbv
      ((try cbv) <;> (repeat ((with_reducible refine EW.of ?_); cbv)))
      refine bsplit (fun h7 => ?_) (fun h7 => ?_)
      · have h7 : nk < n := lt_nt h7 hLEN rfl
        have hrr := hc1 h7
        have hres : R (.ret (.int .i64 2)) L6 := by rw [hR, hrr]; exact herr _
        cbv
        ((try cbv) <;> (repeat ((with_reducible refine EW.of ?_); cbv)))
        exact ⟨_, L6, VSV.refl _ _ _, hres⟩
      have h7 : n ≤ nk := lt_nf h7 hLEN rfl
      have hrr := hc2 h7
      replace hput := hput n h7
      ((try cbv) <;> (repeat ((with_reducible refine EW.of ?_); cbv)))
      refine TW.drawT (A := A) (T0_ok hP) (hP ▸ follows_mixed) (by kernel_rfl) rfl (by kernel_rfl) rfl rfl (by rw [Nat.ble_eq]; exact Nat.le_trans (Nat.le_of_eq (List.length.eq_def L2).symm) (show L2.length ≤ L6.length by omega)) ?_
      cbv
      (simp only [← List.get?Internal.eq_def]; rw [show L6.get?Internal b = _ from hb5]; cbv)
      refine byes (bleM _ _ (Nat.le_trans (Nat.le_of_eq (List.length.eq_def L2).symm) (Nat.le_trans (show L2.length ≤ L6.length by omega) (Nat.le_of_eq (List.length.eq_def L6))))) ?_
      refine ⟨Ent.of (hP ▸ Try.func73) rfl, TC.mono hput ?_⟩
      rintro y L7 ⟨rfl, hl7, ⟨d7, ht7, hq7, hd7, hn7⟩, hs7⟩
      have hres : R (.ret (.int .i64 0)) L7 := by
        rw [hR, hrr]
        refine ⟨rfl, by omega, fun _ => ⟨d7, ht7, hq7, hd7, hn7⟩, fun y h1 h2 => ?_⟩
        rw [hs7 y (by omega) fun h => ?_, hfr y h1 h2]
        rcases List.mem_cons.1 h with h | h
        · exact h2 (h ▸ List.mem_cons_self ..)
        · rcases hsub3 y (List.mem_append_left _ h) with h | h
          · exact h2 (List.mem_cons_of_mem _ h)
          · omega
      cbv
      ((try cbv) <;> (repeat ((with_reducible refine EW.of ?_); cbv)))
      exact ⟨_, L7, VSV.refl _ _ _, hres⟩
end Go.Proofs.Ytaieiigfheabfaa

/-! Whole numbers seen, as a map's entries. -/
namespace Go.Proofs.Ytaieiigfheabfaa
open Go.Proofs.Ytaieiigfheabfaa.Tw
theorem idxJ_none {k : AV} : ∀ {es : Ents}, (∀ x ∈ es, keyEq k x.2.1 = false) → idxA k es = none
  | [], _ => rfl
  | y :: es, h => by
    unfold idxA
    rw [if_neg (by rw [h y (List.mem_cons_self ..)]; simp), idxJ_none (es := es) fun x hx => h x (List.mem_cons_of_mem _ hx)]
    rfl
/-- Ids seen, as a map's entries with bare keys. -/
def entJ (ids : List Int) : Ents := ids.zipIdx.map fun x => (x.2, .int .i64 x.1, .bool true)
structure EmJ where
  l : List Int → Ents
  c : List Int → Nat
  ok : l = entJ
  okc : c = List.length
def emJ0 : EmJ := ⟨_, _, rfl, rfl⟩
theorem lk_true {k : AV} : ∀ {es : Ents}, (∀ x ∈ es, x.2.2 = .bool true) → (∃ x ∈ es, keyEq k x.2.1 = true) → lkA k es = some (.bool true)
  | [], _, ⟨x, hx, _⟩ => by cases hx
  | y :: es, h, ⟨x, hx, hk⟩ => by
    by_cases hy : keyEq k y.2.1 = true
    · unfold lkA idxA
      rw [if_pos hy]
      simp [h y (List.mem_cons_self ..)]
    · have : lkA k es = some (.bool true) := lk_true (fun z hz => h z (List.mem_cons_of_mem _ hz)) ⟨x, (List.mem_cons.1 hx).resolve_left (fun e => hy (e ▸ hk)), hk⟩
      unfold lkA at this ⊢
      unfold idxA
      rw [if_neg hy]
      cases hi : idxA k es with
      | none => rw [hi] at this; cases this
      | some j => rw [hi] at this; simpa using this
namespace EmJ
variable (H : EmJ)
theorem mem {ids : List Int} {x : Nat × AV × AV} (h : x ∈ H.l ids) : ∃ n, n ∈ ids ∧ x.2.1 = .int .i64 n ∧ x.2.2 = .bool true := by
  rw [H.ok] at h
  obtain ⟨y, hy, rfl⟩ := List.mem_map.1 h
  have := List.mem_of_getElem? (List.mem_zipIdx_iff_getElem?.1 hy)
  exact ⟨y.1, this, rfl, rfl⟩
theorem pur (ids : List Int) : PurM (H.l ids) := ⟨fun x hx => by
  obtain ⟨n, _, h1, h2⟩ := H.mem hx
  rw [h1, h2]
  exact ⟨rfl, rfl⟩⟩
theorem nil : H.l [] = [] := by rw [H.ok]; rfl
theorem cnil : H.c [] = 0 := by rw [H.okc]; rfl
theorem snoc (ids : List Int) (n : Int) : H.l (ids ++ [n]) = H.l ids ++ [(ids.length, .int .i64 n, .bool true)] := by
  rw [H.ok]
  unfold entJ
  rw [List.zipIdx_append, List.map_append]
  simp
theorem keys (ids : List Int) (n : Int) : Keys (.int .i64) (.int .i64 n) (H.l ids) := ⟨rfl, fun x hx => by
  obtain ⟨m, _, e, _⟩ := H.mem hx
  rw [e]
  rfl⟩
theorem idx {n : Int} {ids : List Int} (h : n ∉ ids) : idxA (.int .i64 n) (H.l ids) = none := idxJ_none fun x hx => by
  obtain ⟨m, hm, e1, _⟩ := H.mem hx
  rw [e1]
  have : n ≠ m := fun e => h (e ▸ hm)
  simp [keyEq, this]
theorem lkN {n : Int} {ids : List Int} (h : n ∉ ids) : lkA (.int .i64 n) (H.l ids) = none := by simp [lkA, H.idx h]
theorem up {n : Int} {ids : List Int} (h : n ∉ ids) : upA (H.c ids) (.int .i64 n) (.bool true) (H.l ids) = (H.c (ids ++ [n]), H.l (ids ++ [n])) := by
  simp only [upA, H.idx h, H.snoc, H.okc, List.length_append, List.length_cons, List.length_nil]
theorem lkY {n : Int} {ids : List Int} (h : n ∈ ids) : lkA (.int .i64 n) (H.l ids) = some (.bool true) := by
  refine lk_true (fun x hx => ?_) ?_
  · obtain ⟨m, _, _, e⟩ := H.mem hx
    exact e
  · obtain ⟨j, hj⟩ := List.getElem?_of_mem h
    refine ⟨(j, .int .i64 n, .bool true), ?_, by simp [keyEq]⟩
    rw [H.ok]
    exact List.mem_map.2 ⟨(n, j), List.mem_zipIdx_iff_getElem?.2 hj, rfl⟩
theorem idxA_at {k : AV} : ∀ {es : Ents} {j : Nat}, idxA k es = some j → ∃ x, es[j]? = some x ∧ keyEq k x.2.1 = true
  | [], j, h => by unfold idxA at h; cases h
  | y :: es, j, h => by
    unfold idxA at h
    by_cases hy : keyEq k y.2.1 = true
    · rw [if_pos hy] at h
      cases h
      exact ⟨y, rfl, hy⟩
    · rw [if_neg hy] at h
      cases hi : idxA k es with
      | none => rw [hi] at h; cases h
      | some i =>
        rw [hi] at h
        cases h
        obtain ⟨x, h1, h2⟩ := idxA_at hi
        exact ⟨x, h1, h2⟩
theorem upY {n : Int} {ids : List Int} (h : n ∈ ids) : upA (H.c ids) (.int .i64 n) (.bool true) (H.l ids) = (H.c ids, H.l ids) := by
  have hl := H.lkY h
  unfold lkA at hl
  cases hi : idxA (.int .i64 n) (H.l ids) with
  | none => rw [hi] at hl; cases hl
  | some j =>
    obtain ⟨x, h1, h2⟩ := idxA_at hi
    obtain ⟨m, hm, e1, e2⟩ := H.mem (List.mem_of_getElem? h1)
    rw [e1] at h2
    have hnm : n = m := by simpa [keyEq] using h2
    simp only [upA, hi]
    congr 1
    refine List.ext_getElem? fun y => ?_
    rw [List.getElem?_modify]
    by_cases hy : j = y
    · subst hy
      rw [h1]
      obtain ⟨a, b, c⟩ := x
      dsimp only at e1 e2
      simp [e1, e2, hnm]
    · simp [hy]
end EmJ
end Go.Proofs.Ytaieiigfheabfaa

/-! The ids of a tree that is put in: the closure of step.insert. -/
namespace Go.Proofs.Ytaieiigfheabfaa
open Go.Proofs.Ytaieiigfheabfaa.Tw
def addI (i : Int) (seen : List Int) : List Int := if i ∈ seen then seen else seen ++ [i]
mutual
/-- Ids seen, whether one is twice, whether all may be. -/
def idF (T : Tree) (seen : List Int) (tw : Bool) : Tree → List Int × Bool × Bool
  | .node i _ _ ks => if i < 1 ∨ 1125899906842624 < i then (seen, tw, false) else idFs T (addI i seen) (tw || (decide (i ∈ seen) || hasT i T)) ks
def idFs (T : Tree) (seen : List Int) (tw : Bool) : List Tree → List Int × Bool × Bool
  | [] => (seen, tw, true)
  | t :: ts => if (idF T seen tw t).2.2 = true then idFs T (idF T seen tw t).1 (idF T seen tw t).2.1 ts else idF T seen tw t
end
theorem idFs_drop {T : Tree} {seen : List Int} {tw : Bool} {ks : List Tree} {j : Nat} {t : Tree} (h : ks[j]? = some t) : idFs T seen tw (ks.drop j) = if (idF T seen tw t).2.2 = true then idFs T (idF T seen tw t).1 (idF T seen tw t).2.1 (ks.drop (j + 1)) else idF T seen tw t := by
  rw [List.drop_eq_getElem?_toList_append, h]
  rfl
/-- The objects of insert. -/
structure InsX (P : Program) (J : EmJ) (q : Nat) (d : DT) (X : List Int → Bool → Store) (n p0 p1 p2 p3 p4 : Nat) : Prop where
  len : ∀ s b, (X s b).length = n
  g0 : ∀ s b, (X s b)[p0]? = some (some (.box 1 (.ref q 4 0 0)))
  g1 : ∀ s b, (X s b)[p1]? = some (some (.mp (J.c s) (J.l s)))
  g2 : ∀ s b, (X s b)[p2]? = some (some (.box 1 (.map p1)))
  g3 : ∀ s b, (X s b)[p3]? = some (some (.box 1 (.bool b)))
  g4 : ∀ s b, (X s b)[p4]? = some (some (.box 1 (.func (.func 72) [] [.ref p3 1 0 0, .ref p2 1 0 0, .ref p0 1 0 0, .ref p4 1 0 0])))
  s3 : ∀ s b b', (X s b).set p3 (some (.box 1 (.bool b'))) = X s b'
  s1 : ∀ s b s', (X s b).set p1 (some (.mp (J.c s') (J.l s'))) = X s' b
  fnd : ∀ s b id, TC P 51 [.ref q 4 0 0, .int .i64 id] (X s b) (fun x L' => x = .ret (ptrAV (findD id (.ref q 4 0 0) d)) ∧ L' = X s b)
set_option maxHeartbeats 8000000 in
theorem ids72 (A : Ar) (E : Em) (J : EmJ) {P : Program} (hP : P = Try.prog) (q : Nat) (d : DT) (X : List Int → Bool → Store) (n p0 p1 p2 p3 p4 : Nat) (hX : InsX P J q d X n p0 p1 p2 p3 p4) : ∀ (m : Nat) (t : Tree), within m t → ∀ (seen : List Int) (tw : Bool),
    TC P 72 [.imm (tcells E t), .ref p3 1 0 0, .ref p2 1 0 0, .ref p0 1 0 0, .ref p4 1 0 0] (X seen tw) (fun x L' => x = .ret (.bool (idF d.tree seen tw t).2.2) ∧ L' = X (idF d.tree seen tw t).1 (idF d.tree seen tw t).2.1) := by
  intro m
  induction m with
  | zero => exact fun _ h => h.elim
  | succ m ih =>
  intro t hw seen tw
  obtain ⟨i, k, s, ks⟩ := t
  have hll := E.tree.len ks
  have hwl := hw.len'
  have hlk : A.len (E.tree.l ks) = (ks.length : Int) := by rw [A.ok_len, hll]
  obtain ⟨r, hr⟩ : ∃ r, r = idF d.tree seen tw (.node i k s ks) := ⟨_, rfl⟩
  rw [← hr]
  rw [idF] at hr
  obtain ⟨R, hR⟩ : ∃ R : AEnd → Store → Prop, R = fun x L' => x = .ret (.bool r.2.2) ∧ L' = X r.1 r.2.1 := ⟨_, rfl⟩
  rw [← hR]
  unfold tcells
  refine TC.of_ewp A T0 (T0_ok hP) (hP ▸ Try.func72) rfl _ rfl (by simp) ?_
  have hlen := hX.len
  rw [hX.len]
  obtain ⟨L0, hL0⟩ : ∃ M, M = X seen tw := ⟨_, rfl⟩
  rw [← hL0]
  cbv
  ((try cbv) <;> (repeat ((with_reducible refine EW.of ?_); cbv)))
  refine bsplit (fun h => ?_) (fun h => ?_)
  · have h : i < 1 := lt_t h rfl rfl
    have hbad : i < 1 ∨ 1125899906842624 < i := .inl h
    rw [if_pos hbad] at hr
    have hres : R (.ret (.bool false)) L0 := by rw [hR, hr, hL0]; exact ⟨rfl, rfl⟩
    cbv
    ((try cbv) <;> (repeat ((with_reducible refine EW.of ?_); cbv)))
    exact ⟨_, L0, VSV.refl _ _ _, hres⟩
  have h1 : ¬ i < 1 := by have h' : A.lt i 1 = false := h; rw [A.ok_lt] at h'; simpa using h'
  cbv
  ((try cbv) <;> (repeat ((with_reducible refine EW.of ?_); cbv)))
  refine bsplit (fun h => ?_) (fun h => ?_)
  · have h : 1125899906842624 < i := lt_t h rfl rfl
    have hbad : i < 1 ∨ 1125899906842624 < i := .inr h
    rw [if_pos hbad] at hr
    have hres : R (.ret (.bool false)) L0 := by rw [hR, hr, hL0]; exact ⟨rfl, rfl⟩
    cbv
    ((try cbv) <;> (repeat ((with_reducible refine EW.of ?_); cbv)))
    exact ⟨_, L0, VSV.refl _ _ _, hres⟩
  have h2 : ¬ 1125899906842624 < i := by have h' : A.lt 1125899906842624 i = false := h; rw [A.ok_lt] at h'; simpa using h'
  rw [if_neg (fun h => h.elim h1 h2)] at hr
  ((try cbv) <;> (repeat ((with_reducible refine EW.of ?_); cbv)))
  refine TW.drawT (A := A) (T0_ok hP) (hP ▸ follows_mixed) (by kernel_rfl) rfl (by kernel_rfl) rfl rfl (by rw [Nat.ble_eq, hL0, hlen]; exact Nat.le_refl _) ?_
  cbv
  (simp only [← List.get?Internal.eq_def]; rw [show L0.get?Internal p3 = _ from (hL0 ▸ hX.g3 seen tw)]; cbv)
  cases tw with
  | true =>
    have htw : (true || (decide (i ∈ seen) || hasT i d.tree)) = true := rfl
    cbv
    simp only [← List.get?Internal.eq_def]
    rw [show L0.get?Internal p3 = _ from (hL0 ▸ hX.g3 seen true)]
    refine chk_iff.2 ⟨by rfl, ?_⟩
    generalize hL1 : List.set L0 p3 _ = L1
    replace hL1 : L1 = X seen true := by rw [← hL1, hL0]; exact hX.s3 ..
    clear hL0
    have hrr : r = idFs d.tree (addI i seen) true ks := by rw [hr, htw]
    cbv
    ((try cbv) <;> (repeat ((with_reducible refine EW.of ?_); cbv)))
    refine TW.drawT (A := A) (T0_ok hP) (hP ▸ follows_mixed) (by kernel_rfl) rfl (by kernel_rfl) rfl rfl (by rw [Nat.ble_eq, hL1, hlen]; exact Nat.le_refl _) ?_
    cbv
    (simp only [← List.get?Internal.eq_def]; rw [show L1.get?Internal p2 = _ from (hL1 ▸ hX.g2 seen true)]; cbv)
    simp only [← List.get?Internal.eq_def]
    rw [show L1.get?Internal p1 = _ from (hL1 ▸ hX.g1 seen true)]
    have hup : upA (J.c seen) (.int .i64 i) (.bool true) (J.l seen) = (J.c (addI i seen), J.l (addI i seen)) := by
      unfold addI
      by_cases h : i ∈ seen
      · rw [if_pos h]; exact J.upY h
      · rw [if_neg h]; exact J.up h
    refine ⟨J.keys seen i, _, _, hup, ?_⟩
    generalize hL2 : List.set L1 p1 _ = L2
    replace hL2 : L2 = X (addI i seen) true := by rw [← hL2, hL1]; exact hX.s1 ..
    clear hL1
    obtain ⟨se, hse⟩ : ∃ se, se = addI i seen := ⟨_, rfl⟩
    rw [← hse] at hL2 hrr
    cbv
    ((try cbv) <;> (repeat ((with_reducible refine EW.of ?_); cbv)))
    obtain ⟨JJ, hJ⟩ : ∃ J : Nat → AFr → Store → Prop, J = fun c fr L' => ∃ (j : Nat) (s' : List Int) (b' : Bool), c = ks.length - j ∧ j ≤ ks.length ∧ fr = ⟨61, [(48, .int .i64 j), (47, .int .i64 (A.len (E.tree.l ks))), (6, .bool false), (0, .imm [.int .i64 i, .int .i64 k, .str s, .sl 4 (E.tree.l ks)]), (1, .ref p3 1 0 0), (2, .ref p2 1 0 0), (3, .ref p0 1 0 0), (4, .ref p4 1 0 0)]⟩ ∧ L' = X s' b' ∧ r = idFs d.tree s' b' (ks.drop j) := ⟨_, rfl⟩
    refine TW.loopE A (T0_ok hP) JJ (n0 := ks.length) (fr0 := ⟨61, [(48, .int .i64 0), (47, .int .i64 (A.len (E.tree.l ks))), (6, .bool false), (0, .imm [.int .i64 i, .int .i64 k, .str s, .sl 4 (E.tree.l ks)]), (1, .ref p3 1 0 0), (2, .ref p2 1 0 0), (3, .ref p0 1 0 0), (4, .ref p4 1 0 0)]⟩) (L0 := L2)
      (VS.pick rfl (.cons (Sub.refl _) (.cons (Sub.refl _) (.cons (Sub.refl _) (.cons (Sub.refl _) (.cons (Sub.refl _) (.cons (Sub.refl _) (.cons (Sub.refl _) (.cons (Sub.refl _) .nil)))))))))
      (by rw [hJ]; exact ⟨0, se, true, rfl, Nat.zero_le _, rfl, hL2, hrr⟩) ?_
    intro c fr L3 hj
    rw [hJ] at hj
    obtain ⟨j, s', b', hc, hj, rfl, hL3, hinv⟩ := hj
    cbv
    ((try cbv) <;> (repeat ((with_reducible refine EW.of ?_); cbv)))
    refine bsplit (fun h => ?_) (fun h => ?_)
    · have h : j < ks.length := lt_nt h rfl hlk
      obtain ⟨t', ht'⟩ : ∃ t', ks[j]? = some t' := ⟨_, List.getElem?_eq_getElem h⟩
      have hgt := E.tree.get ht'
      have hcall := ih t' (hw.2 t' (List.mem_of_getElem? ht')) s' b'
      rw [idFs_drop ht'] at hinv
      obtain ⟨r2, hr2⟩ : ∃ r2, r2 = idF d.tree s' b' t' := ⟨_, rfl⟩
      rw [← hr2] at hcall hinv
      obtain ⟨s2, b2, ok2⟩ := r2
      dsimp only at hcall hinv
      obtain ⟨i', k', sx', ks'⟩ := t'
      rw [E.node] at hgt
      unfold tcells at hcall
      obtain ⟨L4, hL4⟩ : ∃ M, M = X s2 b2 := ⟨_, rfl⟩
      rw [← hL3, ← hL4] at hcall
      have hj1 : A.op .add .i64 (j : Int) 1 = ((j + 1 : Nat) : Int) := inc_eq A (by omega)
      have hl3 : L3.length = n := by rw [hL3, hlen]
      have hl4 : L4.length = n := by rw [hL4, hlen]
      ((try cbv) <;> (repeat ((with_reducible refine EW.of ?_); cbv)))
      refine TW.drawE (A := A) false [] L3 [(7, L4)] rfl (T0_ok hP) (hP ▸ follows_mixed) (by kernel_rfl) rfl (by kernel_rfl) (by cbv) (by first | kernel_rfl | cbv) rfl rfl (by rw [Bool.and_eq_true, Bool.and_eq_true]; exact ⟨rfl, by rw [Nat.ble_eq, List.nil_append]; omega, by simp only [List.all_cons, List.all_nil, Bool.and_true, List.nil_append, Nat.ble_eq]; omega⟩) ?_
      cbv
      (simp only [← List.get?Internal.eq_def]; rw [show L3.get?Internal p4 = _ from (hL3 ▸ hX.g4 s' b')]; cbv)
      refine ⟨j, _, rfl, hgt, ?_⟩
      cbv
      simp only [← List.length.eq_def]
      refine byes (bleM _ _ (by omega)) ?_
      refine ⟨Ent.of (hP ▸ Try.func72) rfl, _, _, hcall, ?_⟩
      refine ⟨rfl, ?_⟩
      cases ok2 with
      | true =>
        rw [if_pos rfl] at hinv
        cbv
        ((try cbv) <;> (repeat ((with_reducible refine EW.of ?_); cbv)))
        refine ⟨⟨ks.length - (j + 1), ⟨61, [(48, .int .i64 ((j + 1 : Nat) : Int)), (47, .int .i64 (A.len (E.tree.l ks))), (6, .bool false), (0, .imm [.int .i64 i, .int .i64 k, .str s, .sl 4 (E.tree.l ks)]), (1, .ref p3 1 0 0), (2, .ref p2 1 0 0), (3, .ref p0 1 0 0), (4, .ref p4 1 0 0)]⟩, L4, by omega, VS.pick rfl (.cons ?_ (.cons (Sub.refl _) (.cons (Sub.refl _) (.cons (Sub.refl _) (.cons (Sub.refl _) (.cons (Sub.refl _) (.cons (Sub.refl _) (.cons (Sub.refl _) .nil)))))))), ?_⟩⟩
        · show Tw.Sub (.int .i64 (A.op .add .i64 (j : Int) 1)) _
          rw [hj1]
          exact Sub.refl _
        · rw [hJ]
          exact ⟨j + 1, s2, b2, rfl, h, rfl, hL4, hinv⟩
      | false =>
        rw [if_neg (by simp)] at hinv
        have hres : R (.ret (.bool false)) L4 := by rw [hR, hinv]; exact ⟨rfl, hL4⟩
        cbv
        ((try cbv) <;> (repeat ((with_reducible refine EW.of ?_); cbv)))
        exact ⟨_, L4, VSV.refl _ _ _, hres⟩
    · have h : ks.length ≤ j := lt_nf h rfl hlk
      rw [List.drop_eq_nil_of_le h, idFs] at hinv
      have hres : R (.ret (.bool true)) L3 := by rw [hR, hinv]; exact ⟨rfl, hL3⟩
      ((try cbv) <;> (repeat ((with_reducible refine EW.of ?_); cbv)))
      exact ⟨_, L3, VSV.refl _ _ _, hres⟩
  | false =>
    cbv
    (simp only [← List.get?Internal.eq_def]; rw [show L0.get?Internal p2 = _ from (hL0 ▸ hX.g2 seen false)]; cbv)
    (simp only [← List.get?Internal.eq_def]; rw [show L0.get?Internal p1 = _ from (hL0 ▸ hX.g1 seen false)]; cbv)
    refine ⟨J.keys seen i, ?_⟩
    by_cases hin : i ∈ seen
    · refine ⟨_, J.lkY hin, ?_⟩
      have htw : (false || (decide (i ∈ seen) || hasT i d.tree)) = true := by rw [decide_eq_true hin]; rfl
      cbv
      simp only [← List.get?Internal.eq_def]
      rw [show L0.get?Internal p3 = _ from (hL0 ▸ hX.g3 seen false)]
      refine chk_iff.2 ⟨by rfl, ?_⟩
      generalize hL1 : List.set L0 p3 _ = L1
      replace hL1 : L1 = X seen true := by rw [← hL1, hL0]; exact hX.s3 ..
      clear hL0
      have hrr : r = idFs d.tree (addI i seen) true ks := by rw [hr, htw]
      cbv
      ((try cbv) <;> (repeat ((with_reducible refine EW.of ?_); cbv)))
      refine TW.drawT (A := A) (T0_ok hP) (hP ▸ follows_mixed) (by kernel_rfl) rfl (by kernel_rfl) rfl rfl (by rw [Nat.ble_eq, hL1, hlen]; exact Nat.le_refl _) ?_
      cbv
      (simp only [← List.get?Internal.eq_def]; rw [show L1.get?Internal p2 = _ from (hL1 ▸ hX.g2 seen true)]; cbv)
      simp only [← List.get?Internal.eq_def]
      rw [show L1.get?Internal p1 = _ from (hL1 ▸ hX.g1 seen true)]
      have hup : upA (J.c seen) (.int .i64 i) (.bool true) (J.l seen) = (J.c (addI i seen), J.l (addI i seen)) := by
        unfold addI
        by_cases h : i ∈ seen
        · rw [if_pos h]; exact J.upY h
        · rw [if_neg h]; exact J.up h
      refine ⟨J.keys seen i, _, _, hup, ?_⟩
      generalize hL2 : List.set L1 p1 _ = L2
      replace hL2 : L2 = X (addI i seen) true := by rw [← hL2, hL1]; exact hX.s1 ..
      clear hL1
      obtain ⟨se, hse⟩ : ∃ se, se = addI i seen := ⟨_, rfl⟩
      rw [← hse] at hL2 hrr
      cbv
      ((try cbv) <;> (repeat ((with_reducible refine EW.of ?_); cbv)))
      obtain ⟨JJ, hJ⟩ : ∃ J : Nat → AFr → Store → Prop, J = fun c fr L' => ∃ (j : Nat) (s' : List Int) (b' : Bool), c = ks.length - j ∧ j ≤ ks.length ∧ fr = ⟨61, [(48, .int .i64 j), (47, .int .i64 (A.len (E.tree.l ks))), (6, .bool false), (0, .imm [.int .i64 i, .int .i64 k, .str s, .sl 4 (E.tree.l ks)]), (1, .ref p3 1 0 0), (2, .ref p2 1 0 0), (3, .ref p0 1 0 0), (4, .ref p4 1 0 0)]⟩ ∧ L' = X s' b' ∧ r = idFs d.tree s' b' (ks.drop j) := ⟨_, rfl⟩
      refine TW.loopE A (T0_ok hP) JJ (n0 := ks.length) (fr0 := ⟨61, [(48, .int .i64 0), (47, .int .i64 (A.len (E.tree.l ks))), (6, .bool false), (0, .imm [.int .i64 i, .int .i64 k, .str s, .sl 4 (E.tree.l ks)]), (1, .ref p3 1 0 0), (2, .ref p2 1 0 0), (3, .ref p0 1 0 0), (4, .ref p4 1 0 0)]⟩) (L0 := L2)
        (VS.pick rfl (.cons (Sub.refl _) (.cons (Sub.refl _) (.cons (Sub.refl _) (.cons (Sub.refl _) (.cons (Sub.refl _) (.cons (Sub.refl _) (.cons (Sub.refl _) (.cons (Sub.refl _) .nil)))))))))
        (by rw [hJ]; exact ⟨0, se, true, rfl, Nat.zero_le _, rfl, hL2, hrr⟩) ?_
      intro c fr L3 hj
      rw [hJ] at hj
      obtain ⟨j, s', b', hc, hj, rfl, hL3, hinv⟩ := hj
      cbv
      ((try cbv) <;> (repeat ((with_reducible refine EW.of ?_); cbv)))
      refine bsplit (fun h => ?_) (fun h => ?_)
      · have h : j < ks.length := lt_nt h rfl hlk
        obtain ⟨t', ht'⟩ : ∃ t', ks[j]? = some t' := ⟨_, List.getElem?_eq_getElem h⟩
        have hgt := E.tree.get ht'
        have hcall := ih t' (hw.2 t' (List.mem_of_getElem? ht')) s' b'
        rw [idFs_drop ht'] at hinv
        obtain ⟨r2, hr2⟩ : ∃ r2, r2 = idF d.tree s' b' t' := ⟨_, rfl⟩
        rw [← hr2] at hcall hinv
        obtain ⟨s2, b2, ok2⟩ := r2
        dsimp only at hcall hinv
        obtain ⟨i', k', sx', ks'⟩ := t'
        rw [E.node] at hgt
        unfold tcells at hcall
        obtain ⟨L4, hL4⟩ : ∃ M, M = X s2 b2 := ⟨_, rfl⟩
        rw [← hL3, ← hL4] at hcall
        have hj1 : A.op .add .i64 (j : Int) 1 = ((j + 1 : Nat) : Int) := inc_eq A (by omega)
        have hl3 : L3.length = n := by rw [hL3, hlen]
        have hl4 : L4.length = n := by rw [hL4, hlen]
        ((try cbv) <;> (repeat ((with_reducible refine EW.of ?_); cbv)))
        refine TW.drawE (A := A) false [] L3 [(7, L4)] rfl (T0_ok hP) (hP ▸ follows_mixed) (by kernel_rfl) rfl (by kernel_rfl) (by cbv) (by first | kernel_rfl | cbv) rfl rfl (by rw [Bool.and_eq_true, Bool.and_eq_true]; exact ⟨rfl, by rw [Nat.ble_eq, List.nil_append]; omega, by simp only [List.all_cons, List.all_nil, Bool.and_true, List.nil_append, Nat.ble_eq]; omega⟩) ?_
        cbv
        (simp only [← List.get?Internal.eq_def]; rw [show L3.get?Internal p4 = _ from (hL3 ▸ hX.g4 s' b')]; cbv)
        refine ⟨j, _, rfl, hgt, ?_⟩
        cbv
        simp only [← List.length.eq_def]
        refine byes (bleM _ _ (by omega)) ?_
        refine ⟨Ent.of (hP ▸ Try.func72) rfl, _, _, hcall, ?_⟩
        refine ⟨rfl, ?_⟩
        cases ok2 with
        | true =>
          rw [if_pos rfl] at hinv
          cbv
          ((try cbv) <;> (repeat ((with_reducible refine EW.of ?_); cbv)))
          refine ⟨⟨ks.length - (j + 1), ⟨61, [(48, .int .i64 ((j + 1 : Nat) : Int)), (47, .int .i64 (A.len (E.tree.l ks))), (6, .bool false), (0, .imm [.int .i64 i, .int .i64 k, .str s, .sl 4 (E.tree.l ks)]), (1, .ref p3 1 0 0), (2, .ref p2 1 0 0), (3, .ref p0 1 0 0), (4, .ref p4 1 0 0)]⟩, L4, by omega, VS.pick rfl (.cons ?_ (.cons (Sub.refl _) (.cons (Sub.refl _) (.cons (Sub.refl _) (.cons (Sub.refl _) (.cons (Sub.refl _) (.cons (Sub.refl _) (.cons (Sub.refl _) .nil)))))))), ?_⟩⟩
          · show Tw.Sub (.int .i64 (A.op .add .i64 (j : Int) 1)) _
            rw [hj1]
            exact Sub.refl _
          · rw [hJ]
            exact ⟨j + 1, s2, b2, rfl, h, rfl, hL4, hinv⟩
        | false =>
          rw [if_neg (by simp)] at hinv
          have hres : R (.ret (.bool false)) L4 := by rw [hR, hinv]; exact ⟨rfl, hL4⟩
          cbv
          ((try cbv) <;> (repeat ((with_reducible refine EW.of ?_); cbv)))
          exact ⟨_, L4, VSV.refl _ _ _, hres⟩
      · have h : ks.length ≤ j := lt_nf h rfl hlk
        rw [List.drop_eq_nil_of_le h, idFs] at hinv
        have hres : R (.ret (.bool true)) L3 := by rw [hR, hinv]; exact ⟨rfl, hL3⟩
        ((try cbv) <;> (repeat ((with_reducible refine EW.of ?_); cbv)))
        exact ⟨_, L3, VSV.refl _ _ _, hres⟩
    · refine ⟨_, J.lkN hin, ?_⟩
      have hfnd := hX.fnd seen false i
      rw [← hL0] at hfnd
      have hft := findD_has i (.ref q 4 0 0) d
      have hrf := findD_ref i (.ref q 4 0 0) d
      obtain ⟨fr0, hfr0⟩ : ∃ r, r = findD i (.ref q 4 0 0) d := ⟨_, rfl⟩
      rw [← hfr0] at hfnd hft hrf
      cbv
      (simp only [← List.get?Internal.eq_def]; rw [show L0.get?Internal p0 = _ from (hL0 ▸ hX.g0 seen false)]; cbv)
      cases fr0 with
      | none =>
        have htw : (false || (decide (i ∈ seen) || hasT i d.tree)) = false := by rw [decide_eq_false hin, ← hft]; rfl
        refine ⟨Ent.of (hP ▸ Try.func51) rfl, _, hfnd, ?_⟩
        cbv
        simp only [← List.get?Internal.eq_def]
        rw [show L0.get?Internal p3 = _ from (hL0 ▸ hX.g3 seen false)]
        refine chk_iff.2 ⟨by rfl, ?_⟩
        generalize hL1 : List.set L0 p3 _ = L1
        replace hL1 : L1 = X seen false := by rw [← hL1, hL0]; exact hX.s3 ..
        clear hL0
        have hrr : r = idFs d.tree (addI i seen) false ks := by rw [hr, htw]
        cbv
        ((try cbv) <;> (repeat ((with_reducible refine EW.of ?_); cbv)))
        refine TW.drawT (A := A) (T0_ok hP) (hP ▸ follows_mixed) (by kernel_rfl) rfl (by kernel_rfl) rfl rfl (by rw [Nat.ble_eq, hL1, hlen]; exact Nat.le_refl _) ?_
        cbv
        (simp only [← List.get?Internal.eq_def]; rw [show L1.get?Internal p2 = _ from (hL1 ▸ hX.g2 seen false)]; cbv)
        simp only [← List.get?Internal.eq_def]
        rw [show L1.get?Internal p1 = _ from (hL1 ▸ hX.g1 seen false)]
        have hup : upA (J.c seen) (.int .i64 i) (.bool true) (J.l seen) = (J.c (addI i seen), J.l (addI i seen)) := by
          unfold addI
          by_cases h : i ∈ seen
          · rw [if_pos h]; exact J.upY h
          · rw [if_neg h]; exact J.up h
        refine ⟨J.keys seen i, _, _, hup, ?_⟩
        generalize hL2 : List.set L1 p1 _ = L2
        replace hL2 : L2 = X (addI i seen) false := by rw [← hL2, hL1]; exact hX.s1 ..
        clear hL1
        obtain ⟨se, hse⟩ : ∃ se, se = addI i seen := ⟨_, rfl⟩
        rw [← hse] at hL2 hrr
        cbv
        ((try cbv) <;> (repeat ((with_reducible refine EW.of ?_); cbv)))
        obtain ⟨JJ, hJ⟩ : ∃ J : Nat → AFr → Store → Prop, J = fun c fr L' => ∃ (j : Nat) (s' : List Int) (b' : Bool), c = ks.length - j ∧ j ≤ ks.length ∧ fr = ⟨61, [(48, .int .i64 j), (47, .int .i64 (A.len (E.tree.l ks))), (6, .bool false), (0, .imm [.int .i64 i, .int .i64 k, .str s, .sl 4 (E.tree.l ks)]), (1, .ref p3 1 0 0), (2, .ref p2 1 0 0), (3, .ref p0 1 0 0), (4, .ref p4 1 0 0)]⟩ ∧ L' = X s' b' ∧ r = idFs d.tree s' b' (ks.drop j) := ⟨_, rfl⟩
        refine TW.loopE A (T0_ok hP) JJ (n0 := ks.length) (fr0 := ⟨61, [(48, .int .i64 0), (47, .int .i64 (A.len (E.tree.l ks))), (6, .bool false), (0, .imm [.int .i64 i, .int .i64 k, .str s, .sl 4 (E.tree.l ks)]), (1, .ref p3 1 0 0), (2, .ref p2 1 0 0), (3, .ref p0 1 0 0), (4, .ref p4 1 0 0)]⟩) (L0 := L2)
          (VS.pick rfl (.cons (Sub.refl _) (.cons (Sub.refl _) (.cons (Sub.refl _) (.cons (Sub.refl _) (.cons (Sub.refl _) (.cons (Sub.refl _) (.cons (Sub.refl _) (.cons (Sub.refl _) .nil)))))))))
          (by rw [hJ]; exact ⟨0, se, false, rfl, Nat.zero_le _, rfl, hL2, hrr⟩) ?_
        intro c fr L3 hj
        rw [hJ] at hj
        obtain ⟨j, s', b', hc, hj, rfl, hL3, hinv⟩ := hj
        cbv
        ((try cbv) <;> (repeat ((with_reducible refine EW.of ?_); cbv)))
        refine bsplit (fun h => ?_) (fun h => ?_)
        · have h : j < ks.length := lt_nt h rfl hlk
          obtain ⟨t', ht'⟩ : ∃ t', ks[j]? = some t' := ⟨_, List.getElem?_eq_getElem h⟩
          have hgt := E.tree.get ht'
          have hcall := ih t' (hw.2 t' (List.mem_of_getElem? ht')) s' b'
          rw [idFs_drop ht'] at hinv
          obtain ⟨r2, hr2⟩ : ∃ r2, r2 = idF d.tree s' b' t' := ⟨_, rfl⟩
          rw [← hr2] at hcall hinv
          obtain ⟨s2, b2, ok2⟩ := r2
          dsimp only at hcall hinv
          obtain ⟨i', k', sx', ks'⟩ := t'
          rw [E.node] at hgt
          unfold tcells at hcall
          obtain ⟨L4, hL4⟩ : ∃ M, M = X s2 b2 := ⟨_, rfl⟩
          rw [← hL3, ← hL4] at hcall
          have hj1 : A.op .add .i64 (j : Int) 1 = ((j + 1 : Nat) : Int) := inc_eq A (by omega)
          have hl3 : L3.length = n := by rw [hL3, hlen]
          have hl4 : L4.length = n := by rw [hL4, hlen]
          ((try cbv) <;> (repeat ((with_reducible refine EW.of ?_); cbv)))
          refine TW.drawE (A := A) false [] L3 [(7, L4)] rfl (T0_ok hP) (hP ▸ follows_mixed) (by kernel_rfl) rfl (by kernel_rfl) (by cbv) (by first | kernel_rfl | cbv) rfl rfl (by rw [Bool.and_eq_true, Bool.and_eq_true]; exact ⟨rfl, by rw [Nat.ble_eq, List.nil_append]; omega, by simp only [List.all_cons, List.all_nil, Bool.and_true, List.nil_append, Nat.ble_eq]; omega⟩) ?_
          cbv
          (simp only [← List.get?Internal.eq_def]; rw [show L3.get?Internal p4 = _ from (hL3 ▸ hX.g4 s' b')]; cbv)
          refine ⟨j, _, rfl, hgt, ?_⟩
          cbv
          simp only [← List.length.eq_def]
          refine byes (bleM _ _ (by omega)) ?_
          refine ⟨Ent.of (hP ▸ Try.func72) rfl, _, _, hcall, ?_⟩
          refine ⟨rfl, ?_⟩
          cases ok2 with
          | true =>
            rw [if_pos rfl] at hinv
            cbv
            ((try cbv) <;> (repeat ((with_reducible refine EW.of ?_); cbv)))
            refine ⟨⟨ks.length - (j + 1), ⟨61, [(48, .int .i64 ((j + 1 : Nat) : Int)), (47, .int .i64 (A.len (E.tree.l ks))), (6, .bool false), (0, .imm [.int .i64 i, .int .i64 k, .str s, .sl 4 (E.tree.l ks)]), (1, .ref p3 1 0 0), (2, .ref p2 1 0 0), (3, .ref p0 1 0 0), (4, .ref p4 1 0 0)]⟩, L4, by omega, VS.pick rfl (.cons ?_ (.cons (Sub.refl _) (.cons (Sub.refl _) (.cons (Sub.refl _) (.cons (Sub.refl _) (.cons (Sub.refl _) (.cons (Sub.refl _) (.cons (Sub.refl _) .nil)))))))), ?_⟩⟩
            · show Tw.Sub (.int .i64 (A.op .add .i64 (j : Int) 1)) _
              rw [hj1]
              exact Sub.refl _
            · rw [hJ]
              exact ⟨j + 1, s2, b2, rfl, h, rfl, hL4, hinv⟩
          | false =>
            rw [if_neg (by simp)] at hinv
            have hres : R (.ret (.bool false)) L4 := by rw [hR, hinv]; exact ⟨rfl, hL4⟩
            cbv
            ((try cbv) <;> (repeat ((with_reducible refine EW.of ?_); cbv)))
            exact ⟨_, L4, VSV.refl _ _ _, hres⟩
        · have h : ks.length ≤ j := lt_nf h rfl hlk
          rw [List.drop_eq_nil_of_le h, idFs] at hinv
          have hres : R (.ret (.bool true)) L3 := by rw [hR, hinv]; exact ⟨rfl, hL3⟩
          ((try cbv) <;> (repeat ((with_reducible refine EW.of ?_); cbv)))
          exact ⟨_, L3, VSV.refl _ _ _, hres⟩
      | some ob =>
        obtain ⟨rp, dd⟩ := ob
        obtain ⟨pp, pn, rfl⟩ : ∃ pp pn, rp = .ref pp 4 pn 0 := by
          rcases hrf _ rfl with h | ⟨p', j', h⟩
          · exact ⟨q, 0, h⟩
          · exact ⟨p', j', h⟩
        have htw : (false || (decide (i ∈ seen) || hasT i d.tree)) = true := by rw [decide_eq_false hin, ← hft]; rfl
        refine ⟨Ent.of (hP ▸ Try.func51) rfl, _, hfnd, ?_⟩
        cbv
        simp only [← List.get?Internal.eq_def]
        rw [show L0.get?Internal p3 = _ from (hL0 ▸ hX.g3 seen false)]
        refine chk_iff.2 ⟨by rfl, ?_⟩
        generalize hL1 : List.set L0 p3 _ = L1
        replace hL1 : L1 = X seen true := by rw [← hL1, hL0]; exact hX.s3 ..
        clear hL0
        have hrr : r = idFs d.tree (addI i seen) true ks := by rw [hr, htw]
        cbv
        ((try cbv) <;> (repeat ((with_reducible refine EW.of ?_); cbv)))
        refine TW.drawT (A := A) (T0_ok hP) (hP ▸ follows_mixed) (by kernel_rfl) rfl (by kernel_rfl) rfl rfl (by rw [Nat.ble_eq, hL1, hlen]; exact Nat.le_refl _) ?_
        cbv
        (simp only [← List.get?Internal.eq_def]; rw [show L1.get?Internal p2 = _ from (hL1 ▸ hX.g2 seen true)]; cbv)
        simp only [← List.get?Internal.eq_def]
        rw [show L1.get?Internal p1 = _ from (hL1 ▸ hX.g1 seen true)]
        have hup : upA (J.c seen) (.int .i64 i) (.bool true) (J.l seen) = (J.c (addI i seen), J.l (addI i seen)) := by
          unfold addI
          by_cases h : i ∈ seen
          · rw [if_pos h]; exact J.upY h
          · rw [if_neg h]; exact J.up h
        refine ⟨J.keys seen i, _, _, hup, ?_⟩
        generalize hL2 : List.set L1 p1 _ = L2
        replace hL2 : L2 = X (addI i seen) true := by rw [← hL2, hL1]; exact hX.s1 ..
        clear hL1
        obtain ⟨se, hse⟩ : ∃ se, se = addI i seen := ⟨_, rfl⟩
        rw [← hse] at hL2 hrr
        cbv
        ((try cbv) <;> (repeat ((with_reducible refine EW.of ?_); cbv)))
        obtain ⟨JJ, hJ⟩ : ∃ J : Nat → AFr → Store → Prop, J = fun c fr L' => ∃ (j : Nat) (s' : List Int) (b' : Bool), c = ks.length - j ∧ j ≤ ks.length ∧ fr = ⟨61, [(48, .int .i64 j), (47, .int .i64 (A.len (E.tree.l ks))), (6, .bool false), (0, .imm [.int .i64 i, .int .i64 k, .str s, .sl 4 (E.tree.l ks)]), (1, .ref p3 1 0 0), (2, .ref p2 1 0 0), (3, .ref p0 1 0 0), (4, .ref p4 1 0 0)]⟩ ∧ L' = X s' b' ∧ r = idFs d.tree s' b' (ks.drop j) := ⟨_, rfl⟩
        refine TW.loopE A (T0_ok hP) JJ (n0 := ks.length) (fr0 := ⟨61, [(48, .int .i64 0), (47, .int .i64 (A.len (E.tree.l ks))), (6, .bool false), (0, .imm [.int .i64 i, .int .i64 k, .str s, .sl 4 (E.tree.l ks)]), (1, .ref p3 1 0 0), (2, .ref p2 1 0 0), (3, .ref p0 1 0 0), (4, .ref p4 1 0 0)]⟩) (L0 := L2)
          (VS.pick rfl (.cons (Sub.refl _) (.cons (Sub.refl _) (.cons (Sub.refl _) (.cons (Sub.refl _) (.cons (Sub.refl _) (.cons (Sub.refl _) (.cons (Sub.refl _) (.cons (Sub.refl _) .nil)))))))))
          (by rw [hJ]; exact ⟨0, se, true, rfl, Nat.zero_le _, rfl, hL2, hrr⟩) ?_
        intro c fr L3 hj
        rw [hJ] at hj
        obtain ⟨j, s', b', hc, hj, rfl, hL3, hinv⟩ := hj
        cbv
        ((try cbv) <;> (repeat ((with_reducible refine EW.of ?_); cbv)))
        refine bsplit (fun h => ?_) (fun h => ?_)
        · have h : j < ks.length := lt_nt h rfl hlk
          obtain ⟨t', ht'⟩ : ∃ t', ks[j]? = some t' := ⟨_, List.getElem?_eq_getElem h⟩
          have hgt := E.tree.get ht'
          have hcall := ih t' (hw.2 t' (List.mem_of_getElem? ht')) s' b'
          rw [idFs_drop ht'] at hinv
          obtain ⟨r2, hr2⟩ : ∃ r2, r2 = idF d.tree s' b' t' := ⟨_, rfl⟩
          rw [← hr2] at hcall hinv
          obtain ⟨s2, b2, ok2⟩ := r2
          dsimp only at hcall hinv
          obtain ⟨i', k', sx', ks'⟩ := t'
          rw [E.node] at hgt
          unfold tcells at hcall
          obtain ⟨L4, hL4⟩ : ∃ M, M = X s2 b2 := ⟨_, rfl⟩
          rw [← hL3, ← hL4] at hcall
          have hj1 : A.op .add .i64 (j : Int) 1 = ((j + 1 : Nat) : Int) := inc_eq A (by omega)
          have hl3 : L3.length = n := by rw [hL3, hlen]
          have hl4 : L4.length = n := by rw [hL4, hlen]
          ((try cbv) <;> (repeat ((with_reducible refine EW.of ?_); cbv)))
          refine TW.drawE (A := A) false [] L3 [(7, L4)] rfl (T0_ok hP) (hP ▸ follows_mixed) (by kernel_rfl) rfl (by kernel_rfl) (by cbv) (by first | kernel_rfl | cbv) rfl rfl (by rw [Bool.and_eq_true, Bool.and_eq_true]; exact ⟨rfl, by rw [Nat.ble_eq, List.nil_append]; omega, by simp only [List.all_cons, List.all_nil, Bool.and_true, List.nil_append, Nat.ble_eq]; omega⟩) ?_
          cbv
          (simp only [← List.get?Internal.eq_def]; rw [show L3.get?Internal p4 = _ from (hL3 ▸ hX.g4 s' b')]; cbv)
          refine ⟨j, _, rfl, hgt, ?_⟩
          cbv
          simp only [← List.length.eq_def]
          refine byes (bleM _ _ (by omega)) ?_
          refine ⟨Ent.of (hP ▸ Try.func72) rfl, _, _, hcall, ?_⟩
          refine ⟨rfl, ?_⟩
          cases ok2 with
          | true =>
            rw [if_pos rfl] at hinv
            cbv
            ((try cbv) <;> (repeat ((with_reducible refine EW.of ?_); cbv)))
            refine ⟨⟨ks.length - (j + 1), ⟨61, [(48, .int .i64 ((j + 1 : Nat) : Int)), (47, .int .i64 (A.len (E.tree.l ks))), (6, .bool false), (0, .imm [.int .i64 i, .int .i64 k, .str s, .sl 4 (E.tree.l ks)]), (1, .ref p3 1 0 0), (2, .ref p2 1 0 0), (3, .ref p0 1 0 0), (4, .ref p4 1 0 0)]⟩, L4, by omega, VS.pick rfl (.cons ?_ (.cons (Sub.refl _) (.cons (Sub.refl _) (.cons (Sub.refl _) (.cons (Sub.refl _) (.cons (Sub.refl _) (.cons (Sub.refl _) (.cons (Sub.refl _) .nil)))))))), ?_⟩⟩
            · show Tw.Sub (.int .i64 (A.op .add .i64 (j : Int) 1)) _
              rw [hj1]
              exact Sub.refl _
            · rw [hJ]
              exact ⟨j + 1, s2, b2, rfl, h, rfl, hL4, hinv⟩
          | false =>
            rw [if_neg (by simp)] at hinv
            have hres : R (.ret (.bool false)) L4 := by rw [hR, hinv]; exact ⟨rfl, hL4⟩
            cbv
            ((try cbv) <;> (repeat ((with_reducible refine EW.of ?_); cbv)))
            exact ⟨_, L4, VSV.refl _ _ _, hres⟩
        · have h : ks.length ≤ j := lt_nf h rfl hlk
          rw [List.drop_eq_nil_of_le h, idFs] at hinv
          have hres : R (.ret (.bool true)) L3 := by rw [hR, hinv]; exact ⟨rfl, hL3⟩
          ((try cbv) <;> (repeat ((with_reducible refine EW.of ?_); cbv)))
          exact ⟨_, L3, VSV.refl _ _ _, hres⟩
end Go.Proofs.Ytaieiigfheabfaa
