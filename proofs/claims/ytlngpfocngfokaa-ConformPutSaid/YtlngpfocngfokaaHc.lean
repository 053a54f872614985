import Derived.Test.YtlngpfocngfokaaHb
/-! Has a tree too many nodes? -/
namespace Go.Proofs.Ytlngpfocngfokaa
open Go.Proofs.Ytlngpfocngfokaa.Tw
def loop12 (l0 : List (Nat × AV)) (ps : Array Tmp) (ac bd : Code) : Bool → Option AO
  | false => some (.loop .ready none 12 l0 ps ac bd)
  | true => some (.loop .done (some .ret) 12 l0 ps ac bd)
def manyF (x : Nat × Bool) (_ : Tree) (_ : Nat) : (Nat × Bool) × Bool := if 200 < x.1 + 1 then ((x.1 + 1, true), false) else ((x.1 + 1, false), true)
def manySt (l0 : List (Nat × AV)) (ps : Array Tmp) (ac bd : Code) (x : Nat × Bool) : Store := [some (.box 1 (.bool x.2)), some (.box 1 (.int .i64 x.1)), loop12 l0 ps ac bd x.2]
def conM {P : Program} {E : Em} (l0 : List (Nat × AV)) (ps : Array Tmp) (ac bd : Code) (h0 : l0.all (fun x => x.2.upto 3) = true)
    (hy : ∀ (x : Nat × Bool) t (d : Nat), (x.1 ≤ 200 ∧ x.2 = false) → YS P (manySt l0 ps ac bd x) 2 [.imm (cellsT E t), .int .i64 (d : Int)] (manyF x t d).2 (manySt l0 ps ac bd (manyF x t d).1)) : Con P E where
  σ := Nat × Bool
  st := manySt l0 ps ac bd
  K := 3
  p := 2
  f := manyF
  Iv := fun x => x.1 ≤ 200 ∧ x.2 = false
  len := fun x => rfl
  up := fun x => by
    obtain ⟨n, b⟩ := x
    cases b <;> simpa [manySt, loop12, oUpto, AO.upto, AV.upto] using h0
  lt := by decide
  inv := fun x t d hx h => by
    unfold manyF at h ⊢
    split
    · rename_i hc; rw [if_pos hc] at h; cases h
    · exact ⟨by show x.1 + 1 ≤ 200; omega, rfl⟩
  ys := fun n x t d hx _ _ => hy x t d hx
def manyB (t : Tree) : Bool := (runT manyF t 1 (0, false)).1.2
set_option maxRecDepth 100000 in
set_option maxHeartbeats 4000000 in
theorem many50 (A : Ar) (E : Em) {P : Program} (hP : P = Try.prog) (n : Nat) (hn : n ≤ 999999) (t : Tree) (hl : low n t) : TPure P 50 [.imm (cellsT E t)] (.bool (manyB t)) := by
  have k51 := walk51 A E hP (cellsT E t) (cellsT_pur E t) 1
  have k54 := walk54 A E hP n t hl
  unfold manyB
  obtain ⟨r, hr⟩ : ∃ r, r = (runT manyF t 1 (0, false)).1 := ⟨_, rfl⟩
  rw [← hr]
  obtain ⟨i, k, s, ks⟩ := t
  unfold cellsT at k51 k54 ⊢
  have p1 : Tw.Pur [.imm [.int .i64 i, .int .i64 k, .str s, .sl 4 (E.tree.l ks)]] := ⟨by have := E.tree.purL ks; simp [purL, AV.pur, this]⟩
  refine TPure.ofE A T0 (T0_ok hP) (hP ▸ Try.func50) rfl _ rfl (by simp) ?_
  cbv
  ((try cbv) <;> (repeat ((with_reducible refine EW.of ?_); cbv)))
  (refine ⟨Ent.of (hP ▸ Try.func51) rfl, ?_⟩; refine TC.pureE k51 ?_; cbv; (repeat (first | exact trivial | refine And.intro (Emb.Pur _ _) ?_ | refine And.intro rfl ?_ | refine And.intro (Pur.mk rfl) ?_ | refine And.intro (Pur.mk (by assumption)) ?_)); ((try cbv) <;> (repeat ((with_reducible refine EW.of ?_); cbv))))
  refine TW.vsE [(5, .func (.func 54) [] [.imm [.imm [.int .i64 i, .int .i64 k, .str s, .sl 4 (E.tree.l ks)]], .imm [.int .i64 1]]), (3, .ref 1 1 0 0), (2, .ref 0 1 0 0)] [some (.box 1 (.bool false)), some (.box 1 (.int .i64 0))] 12 rfl ?_
  cbv
  (repeat (first | exact trivial | refine And.intro p1 ?_ | refine And.intro (Emb.Pur _ _) ?_ | refine And.intro rfl ?_ | refine And.intro (Pur.mk rfl) ?_))
  refine TW.range rfl rfl (Ent.of (hP ▸ Try.func54) rfl) ?_
  refine TC.mono (k54 (conM (P := P) (E := E) _ _ _ _ ?h0 ?hy) ((0, false) : Nat × Bool) 1 ⟨by decide, rfl⟩ (by omega)) ?_
  case h0 =>
    simp only [List.all_cons, List.all_nil, AV.upto, uptoL, uptoL_pur _ _ (E.tree.purL _), Bool.and_true]
    decide
  case hy =>
    rintro ⟨m, sb⟩ t2 d2 ⟨hm, hsb⟩
    dsimp only at hm hsb
    subst hsb
    have hpt := uptoL_pur 3 _ (cellsT_pur E t2)
    obtain ⟨ct, hct⟩ : ∃ c, c = cellsT E t2 := ⟨_, rfl⟩
    rw [← hct] at hpt ⊢
    have hinc : A.op .add .i64 (m : Int) 1 = ((m + 1 : Nat) : Int) := inc_eq A (by omega)
    by_cases h : 200 < m + 1
    · rw [show manyF (m, false) t2 d2 = ((m + 1, true), false) from if_pos h]
      refine YS.of (n := 12) (l1 := [(7, .int .i64 d2), (6, .imm ct), (5, .func (.func 54) [] [.imm [.imm [.int .i64 i, .int .i64 k, .str s, .sl 4 (E.tree.l ks)]], .imm [.int .i64 1]]), (3, .ref 1 1 0 0), (2, .ref 0 1 0 0)]) rfl rfl rfl ?_ ?_ ?_ ?_ ?_
      · simp [manySt, loop12, oUpto, AO.upto, AV.upto, uptoL, uptoL_pur _ _ (E.tree.purL _)]
      · simp [manySt, aputs, aputf, oUpto, AO.upto, AV.upto, uptoL, uptoL_pur _ _ (E.tree.purL _), hpt]
      · simp [manySt, aputs, aputf, oUpto, AO.upto, AV.upto, uptoL, uptoL_pur _ _ (E.tree.purL _), hpt]
      · intro kk
        refine Tw.of_ewpT (A := A) (T0_ok hP) ?_
        cbv
      intro kk
      refine Tw.of_ewpT (A := A) (T0_ok hP) ?_
      cbv
      ((try cbv) <;> (repeat ((with_reducible refine EW.of ?_); cbv)))
      refine byes (show A.lt 200 (A.op .add .i64 (m : Int) 1) = true from ltT (by rw [hinc]; exact Int.ofNat_lt.2 h)) ?_
      ((try cbv) <;> (repeat ((with_reducible refine EW.of ?_); cbv)))
      exact congrArg (fun z => [some (AO.box 1 (.bool true)), some (AO.box 1 (AV.int .i64 z)), _]) hinc
    · rw [show manyF (m, false) t2 d2 = ((m + 1, false), true) from if_neg h]
      refine YS.of (n := 12) (l1 := [(7, .int .i64 d2), (6, .imm ct), (5, .func (.func 54) [] [.imm [.imm [.int .i64 i, .int .i64 k, .str s, .sl 4 (E.tree.l ks)]], .imm [.int .i64 1]]), (3, .ref 1 1 0 0), (2, .ref 0 1 0 0)]) rfl rfl rfl ?_ ?_ ?_ ?_ ?_
      · simp [manySt, loop12, oUpto, AO.upto, AV.upto, uptoL, uptoL_pur _ _ (E.tree.purL _)]
      · simp [manySt, aputs, aputf, oUpto, AO.upto, AV.upto, uptoL, uptoL_pur _ _ (E.tree.purL _), hpt]
      · simp [manySt, aputs, aputf, oUpto, AO.upto, AV.upto, uptoL, uptoL_pur _ _ (E.tree.purL _), hpt]
      · intro kk
        refine Tw.of_ewpT (A := A) (T0_ok hP) ?_
        cbv
      intro kk
      refine Tw.of_ewpT (A := A) (T0_ok hP) ?_
      cbv
      ((try cbv) <;> (repeat ((with_reducible refine EW.of ?_); cbv)))
      refine bno (show A.lt 200 (A.op .add .i64 (m : Int) 1) = false from ltF (by rw [hinc]; exact Int.not_lt.1 (fun hh => h (Int.ofNat_lt.1 hh)))) ?_
      ((try cbv) <;> (repeat ((with_reducible refine EW.of ?_); cbv)))
      exact congrArg (fun z => [some (AO.box 1 (.bool false)), some (AO.box 1 (AV.int .i64 z)), _]) hinc
  rintro e L1 ⟨rfl, rfl⟩
  rw [show (runT (conM (P := P) (E := E) _ _ _ _ _ _).f (.node i k s ks) 1 ((0, false) : Nat × Bool)).1 = r from hr.symm]
  dsimp only [conM]
  obtain ⟨rn, rb⟩ := r
  unfold manySt
  cases rb with
  | false =>
    dsimp only [loop12]
    cbv
    ((try cbv) <;> (repeat ((with_reducible refine EW.of ?_); cbv)))
  | true =>
    dsimp only [loop12]
    cbv
end Go.Proofs.Ytlngpfocngfokaa
