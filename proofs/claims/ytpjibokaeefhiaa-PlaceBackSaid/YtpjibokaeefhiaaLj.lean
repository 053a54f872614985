import Derived.Test.YtpjibokaeefhiaaLi
/-! Paths, as the program finds them. -/
namespace Go.Proofs.Ytpjibokaeefhiaa
open Go.Proofs.Ytpjibokaeefhiaa.Tw
def fun62p : AV := .func (.func 62) [] [.ref 1 1 0 0, .ref 2 1 0 0, .ref 3 1 0 0]
theorem call62n {P : Program} {tav : AV} {id : Int} {p : List Int} {b : Bool} (h : TC P 62 [tav, .ref 0 1 0 0, .ref 1 1 0 0, .ref 2 1 0 0] [some (.box 1 (.int .i64 id)), some (.box 1 .nils), some (.box 1 fun62)] (fun x L' => x = .ret (.bool b) ∧ ((p = [] ∧ L' = [some (.box 1 (.int .i64 id)), some (.box 1 .nils), some (.box 1 fun62)]) ∨ ∃ rest', L' = [some (.box 1 (.int .i64 id)), some (.box 1 (.row 3 1 0 p.length)), some (.box 1 fun62), some (.arr 1 (ints (p ++ rest')))]))) (ht : tav.pur = true) (bx : AO) {R' : AEnd → Store → Prop}
    (hR1 : p = [] → R' (.ret (.bool b)) [some bx, some (.box 1 (.int .i64 id)), some (.box 1 .nils), some (.box 1 fun62p)])
    (hR2 : ∀ rest', R' (.ret (.bool b)) [some bx, some (.box 1 (.int .i64 id)), some (.box 1 (.row 4 1 0 p.length)), some (.box 1 fun62p), some (.arr 1 (ints (p ++ rest')))]) :
    TC P 62 [tav, .ref 1 1 0 0, .ref 2 1 0 0, .ref 3 1 0 0] [some bx, some (.box 1 (.int .i64 id)), some (.box 1 .nils), some (.box 1 fun62p)] R' := by
  have one : ∀ {π : List Nat} {e f : AV}, e.cells = [e] → f.cells = [f] → Rn π e f → RnO π (.box 1 e) (.box 1 f) := fun he hf hr => .box 1 _ _ (by rw [he, hf]; rfl) (fun j x y hx hy => by
    rw [he] at hx
    rw [hf] at hy
    cases j with
    | zero => simp at hx hy; subst hx hy; exact hr
    | succ j => simp at hx)
  have rf : Rn [1, 2, 3] fun62 fun62p := .func _ [] [] _ _ rfl (fun j c d hc hd => by simp at hc) rfl (fun j c d hc hd => by
    match j, hc, hd with
    | 0, hc, hd => simp at hc hd; subst hc hd; exact .ref 1 0 0 rfl
    | 1, hc, hd => simp at hc hd; subst hc hd; exact .ref 1 0 0 rfl
    | 2, hc, hd => simp at hc hd; subst hc hd; exact .ref 1 0 0 rfl
    | j + 3, hc, hd => simp at hc)
  refine ⟨TCall.frame [1, 2, 3] h.h (by decide) rfl (fun i p hi => ?_) rfl (RnL.get (.cons (.pure ht) (.cons (.ref 1 0 0 rfl) (.cons (.ref 1 0 0 rfl) (.cons (.ref 1 0 0 rfl) .nil))))) ?_⟩
  · match i, hi with
    | 0, hi => simp at hi; subst hi; exact ⟨by simp, fun o ho => ⟨_, rfl, by simp at ho; subst ho; exact one rfl rfl (.pure rfl)⟩⟩
    | 1, hi => simp at hi; subst hi; exact ⟨by simp, fun o ho => ⟨_, rfl, by simp at ho; subst ho; exact one rfl rfl (.pure rfl)⟩⟩
    | 2, hi => simp at hi; subst hi; exact ⟨by simp, fun o ho => ⟨_, rfl, by simp at ho; subst ho; exact one rfl rfl rf⟩⟩
    | i + 3, hi => simp at hi
  · rintro x L' _ ⟨rfl, ⟨hp, rfl⟩ | ⟨rest', rfl⟩⟩
    · have hm : mergeL [some bx, some (.box 1 (.int .i64 id)), some (.box 1 .nils), some (.box 1 fun62p)] [1, 2, 3] [1, 2, 3] [some (.box 1 (.int .i64 id)), some (.box 1 .nils), some (.box 1 fun62)] = [some bx, some (.box 1 (.int .i64 id)), some (.box 1 .nils), some (.box 1 fun62p)] := by
        simp [mergeL, fun62, fun62p, AO.ren, AV.ren, renL, List.range_succ, List.idxOf?, List.findIdx?_cons]
      have hn : news [some bx, some (.box 1 (.int .i64 id)), some (.box 1 .nils), some (.box 1 fun62p)] [1, 2, 3] [some (.box 1 (.int .i64 id)), some (.box 1 .nils), some (.box 1 fun62)] = [1, 2, 3] := by simp [news]
      rw [hn, hm]
      exact hR1 hp
    · have hp := renL_pur [1, 2, 3, 4] _ (ints_pur (p ++ rest'))
      have hn : news [some bx, some (.box 1 (.int .i64 id)), some (.box 1 .nils), some (.box 1 fun62p)] [1, 2, 3] [some (.box 1 (.int .i64 id)), some (.box 1 (.row 3 1 0 p.length)), some (.box 1 fun62), some (.arr 1 (ints (p ++ rest')))] = [1, 2, 3, 4] := by simp [news]
      have hm : mergeL [some bx, some (.box 1 (.int .i64 id)), some (.box 1 .nils), some (.box 1 fun62p)] [1, 2, 3] [1, 2, 3, 4] [some (.box 1 (.int .i64 id)), some (.box 1 (.row 3 1 0 p.length)), some (.box 1 fun62), some (.arr 1 (ints (p ++ rest')))] = [some bx, some (.box 1 (.int .i64 id)), some (.box 1 (.row 4 1 0 p.length)), some (.box 1 fun62p), some (.arr 1 (ints (p ++ rest')))] := by
        simp [mergeL, fun62, fun62p, AO.ren, AV.ren, renL, hp, List.range_succ, List.idxOf?, List.findIdx?_cons]
      rw [hn, hm]
      exact hR2 rest'
theorem Path26 (A : Ar) {P : Program} (hP : P = Try.prog) (id : Int) (n : Nat) (hn : n ≤ 1000000) (t : Tree) (hw : within n t) : TPure P 26 [t.av, .int .i64 id] (pathAV (pathT id t)) := by
  obtain ⟨n, rfl⟩ : ∃ m, n = m + 1 := by
    cases n with
    | zero => exact hw.elim
    | succ n => exact ⟨n, rfl⟩
  have hd := down62n A hP id n hn t hw
  refine TPure.of (TC.of_ewp A T0 (T0_ok hP) (hP ▸ Try.func26) rfl _ rfl (by simp) ?_)
  have htp := t.av_pur
  obtain ⟨i, k, s, ks⟩ := t
  simp only [Tree.av] at hd htp ⊢
  generalize avs ks = aks at hd htp
  generalize pathT id (.node i k s ks) = o at hd
  cbv
  ((try cbv) <;> (repeat ((with_reducible refine EW.of ?_); cbv)))
  refine ⟨Ent.of (hP ▸ Try.func62) rfl, ?_⟩
  refine call62n hd htp (.box 4 (.agg [.int .i64 i, .int .i64 k, .str s, .sl 4 aks])) (fun hp => ?_) (fun rest' => ?_)
  · cases o with
    | none =>
      cbv
      ((try cbv) <;> (repeat ((with_reducible refine EW.of ?_); cbv)))
      exact ⟨_, _, VSV.trans (VSV.sub (v' := .tup [.sl 1 [], .bool false]) (Sub.tup2 (Sub.nils 1) (Sub.refl _))) (VSV.pure rfl), rfl, rfl⟩
    | some p =>
      simp only [Option.getD_some] at hp
      subst hp
      cbv
      ((try cbv) <;> (repeat ((with_reducible refine EW.of ?_); cbv)))
      exact ⟨_, _, VSV.trans (VSV.sub (v' := .tup [.sl 1 [], .bool true]) (Sub.tup2 (Sub.nils 1) (Sub.refl _))) (VSV.pure rfl), rfl, rfl⟩
  · cases o with
    | none =>
      simp only [Option.getD_none, List.nil_append]
      generalize ints rest' = ir
      cbv
      ((try cbv) <;> (repeat ((with_reducible refine EW.of ?_); cbv)))
      exact ⟨_, _, VSV.trans (VSV.sub (v' := .tup [.sl 1 [], .bool false]) (Sub.tup2 (Sub.nils 1) (Sub.refl _))) (VSV.pure rfl), rfl, rfl⟩
    | some p =>
      simp only [Option.getD_some]
      have hpp := ints_pur p
      have hpe : pathAV (some p) = .tup [.sl 1 (ints p), .bool true] := rfl
      have htk : ((ints (p ++ rest')).drop 0).take p.length = ints p := by rw [List.drop_zero, ints_take]; simp
      have hle : 0 + p.length ≤ (ints (p ++ rest')).length := by rw [ints_len]; simp
      rw [hpe]
      generalize ints (p ++ rest') = ir at htk hle
      generalize p.length = m at htk hle
      generalize ints p = ip at htk hpp
      cbv
      ((try cbv) <;> (repeat ((with_reducible refine EW.of ?_); cbv)))
      refine ⟨_, _, VSV.trans (VSV.freeze (p := 4) (els := ir) (v' := .tup [.sl 1 ip, .bool true]) rfl (FSub.tup2 (htk ▸ FSub.row 0 m hle) (.sub (Sub.refl _)))) (VSV.pure (by simpa [AV.pur, purL] using hpp)), rfl, rfl⟩
end Go.Proofs.Ytpjibokaeefhiaa
