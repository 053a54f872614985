import Derived.Test.YtpjibokaeefhiaaLf
import Derived.Test.YtpjibokaeefhiaaTw6
/-! Paths, as the program finds them. -/
namespace Go.Proofs.Ytpjibokaeefhiaa
open Go.Proofs.Ytpjibokaeefhiaa.Tw
def fun62 : AV := .func (.func 62) [] [.ref 0 1 0 0, .ref 1 1 0 0, .ref 2 1 0 0]
def st62 (id : Int) (cur rest : List Int) : Store := [some (.box 1 (.int .i64 id)), some (.box 1 (.row 3 1 0 cur.length)), some (.box 1 fun62), some (.arr 1 (ints (cur ++ rest)))]
def end62 (id : Int) (cur rest : List Int) : Store := [some (.box 1 (.int .i64 id)), some (.box 1 (.row 4 1 0 cur.length)), some (.box 1 fun62), none, some (.arr 1 (ints (cur ++ rest)))]
theorem rn62 {π : List Nat} (h0 : π[0]? = some 0) (h1 : π[1]? = some 1) (h2 : π[2]? = some 2) : Rn π fun62 fun62 := .func _ [] [] _ _ rfl (fun j c d hc hd => by simp at hc) rfl (fun j c d hc hd => by
  match j, hc, hd with
  | 0, hc, hd => simp at hc hd; subst hc hd; exact .ref 1 0 0 h0
  | 1, hc, hd => simp at hc hd; subst hc hd; exact .ref 1 0 0 h1
  | 2, hc, hd => simp at hc hd; subst hc hd; exact .ref 1 0 0 h2
  | j + 3, hc, hd => simp at hc)
theorem call62 {P : Program} {tav : AV} {id : Int} {cur rest c : List Int} {b : Bool} (h : TC P 62 [tav, .ref 0 1 0 0, .ref 1 1 0 0, .ref 2 1 0 0] (st62 id cur rest) (fun x L' => x = .ret (.bool b) ∧ ∃ rest', L' = end62 id c rest')) (ht : tav.pur = true) (bx bk : AO) {R' : AEnd → Store → Prop}
    (hR : ∀ rest', R' (.ret (.bool b)) [some (.box 1 (.int .i64 id)), some (.box 1 (.row 8 1 0 c.length)), some (.box 1 fun62), none, some bx, none, some bk, none, some (.arr 1 (ints (c ++ rest')))]) :
    TC P 62 [tav, .ref 0 1 0 0, .ref 1 1 0 0, .ref 2 1 0 0] [some (.box 1 (.int .i64 id)), some (.box 1 (.row 7 1 0 cur.length)), some (.box 1 fun62), none, some bx, none, some bk, some (.arr 1 (ints (cur ++ rest)))] R' := by
  have one : ∀ {π : List Nat} {e f : AV}, e.cells = [e] → f.cells = [f] → Rn π e f → RnO π (.box 1 e) (.box 1 f) := fun he hf hr => .box 1 _ _ (by rw [he, hf]; rfl) (fun j x y hx hy => by
    rw [he] at hx
    rw [hf] at hy
    cases j with
    | zero => simp at hx hy; subst hx hy; exact hr
    | succ j => simp at hx)
  refine ⟨TCall.frame [0, 1, 2, 7] h.h (by decide) rfl (fun i p hi => ?_) rfl (RnL.get (.cons (.pure ht) (.cons (.ref 1 0 0 rfl) (.cons (.ref 1 0 0 rfl) (.cons (.ref 1 0 0 rfl) .nil))))) ?_⟩
  · match i, hi with
    | 0, hi => simp at hi; subst hi; exact ⟨by simp, fun o ho => ⟨_, rfl, by simp [st62] at ho; subst ho; exact one rfl rfl (.pure rfl)⟩⟩
    | 1, hi => simp at hi; subst hi; exact ⟨by simp, fun o ho => ⟨_, rfl, by simp [st62] at ho; subst ho; exact one rfl rfl (.row 1 0 _ rfl)⟩⟩
    | 2, hi => simp at hi; subst hi; exact ⟨by simp, fun o ho => ⟨_, rfl, by simp [st62] at ho; subst ho; exact one rfl rfl (rn62 rfl rfl rfl)⟩⟩
    | 3, hi => simp at hi; subst hi; exact ⟨by simp, fun o ho => ⟨_, rfl, by simp [st62] at ho; subst ho; exact .pure (ints_pur _)⟩⟩
    | i + 4, hi => simp at hi
  · rintro x L' _ ⟨rfl, rest', rfl⟩
    have hp := renL_pur [0, 1, 2, 7, 8] _ (ints_pur (c ++ rest'))
    have hn : news [some (.box 1 (.int .i64 id)), some (.box 1 (.row 7 1 0 cur.length)), some (.box 1 fun62), none, some bx, none, some bk, some (.arr 1 (ints (cur ++ rest)))] [0, 1, 2, 7] (end62 id c rest') = [0, 1, 2, 7, 8] := by
      simp [news, end62]
    rw [hn]
    have hm : mergeL [some (.box 1 (.int .i64 id)), some (.box 1 (.row 7 1 0 cur.length)), some (.box 1 fun62), none, some bx, none, some bk, some (.arr 1 (ints (cur ++ rest)))] [0, 1, 2, 7] [0, 1, 2, 7, 8] (end62 id c rest') = [some (.box 1 (.int .i64 id)), some (.box 1 (.row 8 1 0 c.length)), some (.box 1 fun62), none, some bx, none, some bk, none, some (.arr 1 (ints (c ++ rest')))] := by
      simp [mergeL, end62, fun62, AO.ren, AV.ren, renL, hp, List.range_succ, List.idxOf?, List.findIdx?_cons]
    rw [hm]
    exact hR rest'
theorem down62 (A : Ar) {P : Program} (hP : P = Try.prog) (id : Int) : ∀ (n : Nat), n ≤ 1000000 → ∀ (t : Tree), within n t → ∀ (cur rest : List Int), cur.length + n ≤ 2000000 →
    TC P 62 [t.av, .ref 0 1 0 0, .ref 1 1 0 0, .ref 2 1 0 0] (st62 id cur rest) (fun x L' => x = .ret (.bool (pathT id t).isSome) ∧ ∃ rest', L' = end62 id (cur ++ (pathT id t).getD []) rest') := by
  intro n
  induction n with
  | zero => exact fun _ t h => h.elim
  | succ n ih =>
  intro hn t hw cur rest hcur
  refine TC.of_ewp A T0 (T0_ok hP) (hP ▸ Try.func62) rfl _ rfl (by simp) ?_
  obtain ⟨i, k, s, ks⟩ := t
  have hpk := avs_pur ks
  have hlk := avs_len ks
  have hwl := hw.len
  simp only [Tree.av, pathT, st62]
  have hcp := ints_pur (cur ++ rest)
  have hcl := ints_len (cur ++ rest)
  simp only [List.length_append] at hcl
  generalize hks : avs ks = aks at hpk hlk
  generalize hcr : ints (cur ++ rest) = cr at hcp hcl
  generalize hcn : cur.length = cn at hcl hcur
  obtain ⟨rr, hr⟩ : ∃ rr, (if i = id then some [] else pathK id ks 0) = rr := ⟨_, rfl⟩
  rw [hr]
  generalize hR : (fun (x : AEnd) (L' : Store) => x = AEnd.ret (.bool rr.isSome) ∧ ∃ rest', L' = end62 id (cur ++ rr.getD []) rest') = R
  obtain ⟨fv, hfv⟩ : ∃ fv, fv = fun62 := ⟨_, rfl⟩
  rw [← hfv]
  cbv
  ((try cbv) <;> (repeat ((with_reducible refine EW.of ?_); cbv)))
  refine bsplit (fun h => ?_) (fun h => ?_)
  · have h : i = id := eq_t h rfl rfl
    ((try cbv) <;> (repeat ((with_reducible refine EW.of ?_); cbv)))
    rw [if_pos h] at hr
    subst hr
    refine ⟨.bool true, _, VSV.settle2 (o := .arr 1 cr) (L0 := [some (.box 1 (.int .i64 id)), some (.box 1 (.row 4 1 0 cn)), some (.box 1 fv), none]) 3 4 (Nat.le_refl _) (Nat.le_succ 4) rfl (uptoL_pur 4 _ hcp) rfl
      (.obj (.keep _ rfl) (by decide) (.obj (.box 1 0 cn) (by decide) (.obj (.keep _ (by rw [hfv]; rfl)) (by decide) (.gone (.nil _ _))))) (.keep _ rfl), ?_⟩
    subst hR
    refine ⟨rfl, rest, ?_⟩
    simp only [Option.getD_some, List.append_nil, end62, hcr, hcn, hfv]
    rfl
  · have h : i ≠ id := eq_f h rfl rfl
    rw [if_neg h] at hr
    ((try cbv) <;> (repeat ((with_reducible refine EW.of ?_); cbv)))
    have hup : ∀ m, uptoL m aks = true := fun m => uptoL_pur m _ hpk
    obtain ⟨J, hJ⟩ : ∃ J : Nat → AFr → Store → Prop, J = fun c fr L => ∃ j : Nat, c = ks.length - j ∧ j ≤ ks.length ∧ pathK id (ks.drop j) j = rr ∧ ∃ rest',
      fr = ⟨33, [(15, .int .i64 j), (14, .int .i64 (A.len aks)), (13, .sl 4 aks), (1, .ref 0 1 0 0), (2, .ref 1 1 0 0), (3, .ref 2 1 0 0)]⟩ ∧ L = [some (.box 1 (.int .i64 id)), some (.box 1 (.row 5 1 0 cn)), some (.box 1 fv), none, some (.box 4 (.agg [.int .i64 i, .int .i64 k, .str s, .sl 4 aks])), some (.arr 1 (ints (cur ++ rest')))] := ⟨_, rfl⟩
    refine TW.loopE A (T0_ok hP) J (n0 := ks.length) (fr0 := ⟨33, [(15, .int .i64 0), (14, .int .i64 (A.len aks)), (13, .sl 4 aks), (1, .ref 0 1 0 0), (2, .ref 1 1 0 0), (3, .ref 2 1 0 0)]⟩) (L0 := [some (.box 1 (.int .i64 id)), some (.box 1 (.row 5 1 0 cn)), some (.box 1 fv), none, some (.box 4 (.agg [.int .i64 i, .int .i64 k, .str s, .sl 4 aks])), some (.arr 1 cr)])
      (VS.settle2 (o := .arr 1 cr) (L0 := [some (.box 1 (.int .i64 id)), some (.box 1 (.row 5 1 0 cn)), some (.box 1 fv), none, some (.box 4 (.agg [.int .i64 i, .int .i64 k, .str s, .sl 4 aks]))]) 3 5 rfl (Nat.le_succ 4) (Nat.le_refl _) rfl (uptoL_pur 5 _ hcp) rfl
        (.obj (.keep _ rfl) (by decide) (.obj (.box 1 0 cn) (by decide) (.obj (.keep _ (by rw [hfv]; rfl)) (by decide) (.gone (.obj (.keep _ (by simp [AO.upto, AV.upto, uptoL, hup])) (by decide) (.nil _ _))))))
        (.cons (.keep _ rfl) (.cons (.keep _ rfl) (.cons (.keep _ (by simp [aget, agetL, AV.upto, hup])) (.cons (.keep _ rfl) (.cons (.keep _ rfl) (.cons (.keep _ rfl) .nil)))))))
      (by rw [hJ]; exact ⟨0, rfl, Nat.zero_le _, hr, rest, rfl, by rw [hcr]⟩) ?_
    intro c fr L hj
    rw [hJ] at hj
    obtain ⟨j, hc, hj, hinv, rest', rfl, rfl⟩ := hj
    have hcp' := ints_pur (cur ++ rest')
    have hcl' := ints_len (cur ++ rest')
    simp only [List.length_append] at hcl'
    generalize hcr' : ints (cur ++ rest') = cr' at hcp' hcl'
    cbv
    ((try cbv) <;> (repeat ((with_reducible refine EW.of ?_); cbv)))
    refine bsplit (fun h => ?_) (fun h => ?_)
    · have h : j < aks.length := lt_nt h rfl (A.ok_len _)
      obtain ⟨t', ht'⟩ : ∃ t', ks[j]? = some t' := ⟨_, List.getElem?_eq_getElem (by omega)⟩
      have hav := avs_get ht'
      rw [hks] at hav
      rw [pathK_drop ht'] at hinv
      have hwt := hw.2 t' (List.mem_of_getElem? ht')
      obtain ⟨i', k', s', ks'⟩ := t'
      simp only [Tree.av] at hav
      have hpk' := avs_pur ks'
      generalize hks' : avs ks' = aks' at hav hpk'
      have hrec := ih (by omega) (.node i' k' s' ks') hwt (cur ++ [(j : Int)]) [] (by simp; omega)
      have htk : cr'.take cn = ints cur := by rw [← hcr', ints_take, ← hcn]; simp
      have hes : ints (cur ++ [(j : Int)] ++ []) = cr'.take cn ++ [.int .i64 (j : Int)] := by rw [htk]; simp [ints]
      have hgl : (cur ++ [(j : Int)]).length = cn + 1 := by simp [hcn]
      simp only [Tree.av, hks'] at hrec
      generalize hq : pathT id (.node i' k' s' ks') = q at hrec hinv
      subst hfv
      ((try cbv) <;> (repeat ((with_reducible refine EW.of ?_); cbv)))
      refine ⟨j, _, rfl, hav, ?_⟩
      cbv
      ((try cbv) <;> (repeat ((with_reducible refine EW.of ?_); cbv)))
      refine ⟨⟨rfl⟩, cn + 1, ints (cur ++ [(j : Int)] ++ []), rfl, hes, by omega, by omega, by omega, ?_⟩
      generalize hea : ints (cur ++ [(j : Int)] ++ []) = ea
      cbv
      ((try cbv) <;> (repeat ((with_reducible refine EW.of ?_); cbv)))
      refine ⟨Ent.of (hP ▸ Try.func62) rfl, ?_⟩
      have htav : (AV.agg [.int .i64 i', .int .i64 k', .str s', .sl 4 aks']).pur = true := by simp only [AV.pur, purL, hpk']; rfl
      have hc62 := fun R' hR' => call62 (R' := R') hrec htav (.box 4 (.agg [.int .i64 i, .int .i64 k, .str s, .sl 4 aks])) (.box 4 (.agg [.int .i64 i', .int .i64 k', .str s', .sl 4 aks'])) hR'
      rw [hgl, hea] at hc62
      refine hc62 _ fun rest2 => ?_
      have hcp2 := ints_pur (cur ++ [(j : Int)] ++ q.getD [] ++ rest2)
      have hcl2 := ints_len (cur ++ [(j : Int)] ++ q.getD [] ++ rest2)
      cases q with
      | none =>
        simp only [Option.getD_none, Option.isSome_none, List.append_nil] at hcp2 hcl2 hinv ⊢
        rw [hgl]
        generalize hce : ints (cur ++ [(j : Int)] ++ rest2) = ce at hcp2 hcl2
        cbv
        ((try cbv) <;> (repeat ((with_reducible refine EW.of ?_); cbv)))
        have hsub : A.op .sub .i64 (A.nat (cn + 1)) 1 = ((cn : Nat) : Int) := (sub_i64 (A := A) (A.ok_nat (cn + 1)) (rfl : (1 : Int) = 1) (by omega) (by omega)).trans (by omega)
        refine ⟨cn, hsub, Nat.le_succ cn, ?_⟩
        cbv
        ((try cbv) <;> (repeat ((with_reducible refine EW.of ?_); cbv)))
        refine ⟨ks.length - (j + 1), ⟨33, [(15, .int .i64 ((j + 1 : Nat) : Int)), (14, .int .i64 (A.len aks)), (13, .sl 4 aks), (1, .ref 0 1 0 0), (2, .ref 1 1 0 0), (3, .ref 2 1 0 0)]⟩, [some (.box 1 (.int .i64 id)), some (.box 1 (.row 5 1 0 cn)), some (.box 1 fun62), none, some (.box 4 (.agg [.int .i64 i, .int .i64 k, .str s, .sl 4 aks])), some (.arr 1 ce)], by omega,
          VS.trans (VS.pick (l := [(15, .int .i64 ((j + 1 : Nat) : Int)), (14, .int .i64 (A.len aks)), (13, .sl 4 aks), (1, .ref 0 1 0 0), (2, .ref 1 1 0 0), (3, .ref 2 1 0 0)]) rfl (.cons (Sub.inc A (by omega)) (.cons (Sub.refl _) (.cons (Sub.refl _) (.cons (Sub.refl _) (.cons (Sub.refl _) (.cons (Sub.refl _) .nil)))))))
            (VS.settle2 (o := .arr 1 ce) (L0 := [some (.box 1 (.int .i64 id)), some (.box 1 (.row 5 1 0 cn)), some (.box 1 fun62), none, some (.box 4 (.agg [.int .i64 i, .int .i64 k, .str s, .sl 4 aks]))]) 8 5 rfl (by decide) (by simp) rfl (uptoL_pur 5 _ hcp2) rfl
              (.obj (.keep _ rfl) (by decide) (.obj (.box 1 0 cn) (by decide) (.obj (.keep _ rfl) (by decide) (.gone (.obj (.keep _ (by simp [AO.upto, AV.upto, uptoL, hup])) (by decide) (.nil _ _))))))
              (.cons (.keep _ rfl) (.cons (.keep _ rfl) (.cons (.keep _ (by simp [aget, agetL, AV.upto, hup])) (.cons (.keep _ rfl) (.cons (.keep _ rfl) (.cons (.keep _ rfl) .nil))))))), ?_⟩
        rw [hJ]
        exact ⟨j + 1, rfl, by omega, hinv, (j : Int) :: rest2, rfl, by rw [← hce]; simp⟩
      | some p =>
        simp only [Option.getD_some, Option.isSome_some] at hcp2 hcl2 hinv ⊢
        subst hinv
        generalize hcm : (cur ++ [(j : Int)] ++ p).length = cm
        generalize hce : ints (cur ++ [(j : Int)] ++ p ++ rest2) = ce at hcp2 hcl2
        cbv
        ((try cbv) <;> (repeat ((with_reducible refine EW.of ?_); cbv)))
        refine ⟨.bool true, _, VSV.settle2 (o := .arr 1 ce) (L0 := [some (.box 1 (.int .i64 id)), some (.box 1 (.row 4 1 0 cm)), some (.box 1 fun62), none]) 8 4 (Nat.le_refl _) (by simp) rfl (uptoL_pur 4 _ hcp2) rfl
          (.obj (.keep _ rfl) (by decide) (.obj (.box 1 0 cm) (by decide) (.obj (.keep _ rfl) (by decide) (.gone (.nil _ _))))) (.keep _ rfl), ?_⟩
        subst hR
        refine ⟨rfl, rest2, ?_⟩
        have e1 : cur ++ (some ((j : Int) :: p)).getD [] = cur ++ [(j : Int)] ++ p := by simp
        rw [e1]
        simp only [end62, hce, hcm]
        rfl
    · have h : aks.length ≤ j := lt_nf h rfl (A.ok_len _)
      ((try cbv) <;> (repeat ((with_reducible refine EW.of ?_); cbv)))
      have hd : ks.drop j = [] := List.drop_eq_nil_of_le (by omega)
      rw [hd] at hinv
      simp only [pathK] at hinv
      subst hinv
      refine ⟨.bool false, _, VSV.settle2 (o := .arr 1 cr') (L0 := [some (.box 1 (.int .i64 id)), some (.box 1 (.row 4 1 0 cn)), some (.box 1 fv), none]) 5 4 (Nat.le_refl _) (Nat.le_succ_of_le (Nat.le_succ 4)) rfl (uptoL_pur 4 _ hcp') rfl
        (.obj (.keep _ rfl) (by decide) (.obj (.box 1 0 cn) (by decide) (.obj (.keep _ (by rw [hfv]; rfl)) (by decide) (.gone (.nil _ _))))) (.keep _ rfl), ?_⟩
      subst hR
      refine ⟨rfl, rest', ?_⟩
      simp only [Option.getD_none, List.append_nil, end62, hcr', hcn, hfv]
      rfl
end Go.Proofs.Ytpjibokaeefhiaa
