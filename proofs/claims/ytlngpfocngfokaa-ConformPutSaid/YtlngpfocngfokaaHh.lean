import Derived.Test.YtlngpfocngfokaaHg
/-! Does a subtree conform, by the program? -/
namespace Go.Proofs.Ytlngpfocngfokaa
open Go.Proofs.Ytlngpfocngfokaa.Tw
def loop55 (l0 : List (Nat × AV)) (ps : Array Tmp) (ac bd : Code) : Bool → Option AO
  | false => some (.loop .ready none 55 l0 ps ac bd)
  | true => some (.loop .done (some .ret) 55 l0 ps ac bd)
/-- A node that is to be refused, others having been seen. -/
def badN (g : Gra) (ids : List Int) (t : Tree) (d : Nat) : Prop := 32 < d ∨ idT t < 1 ∨ 1125899906842624 < idT t ∨ idT t ∈ ids ∨ nodeB g t = false
instance (g : Gra) (ids : List Int) (t : Tree) (d : Nat) : Decidable (badN g ids t d) := by unfold badN; infer_instance
def subF (A : Ar) (g : Gra) (x : List Int × Int × Bool) (t : Tree) (d : Nat) : (List Int × Int × Bool) × Bool :=
  if badN g x.1 t d then ((x.1, x.2.1, true), false) else ((x.1 ++ [idT t], A.op .add .i64 x.2.1 1, false), true)
def subSt (H : EmI) (l0 : List (Nat × AV)) (ps : Array Tmp) (ac bd : Code) : List Int × Int × Bool → Store
  | (ids, a, false) => [some (.box 1 (.int .i64 0)), some (.box 1 (.int .i64 0)), some (.mp (H.c ids) (H.l ids)), some (.box 1 (.map 2)), some (.box 1 (.int .i64 a)), loop55 l0 ps ac bd false]
  | (ids, a, true) => [some (.box 1 (.int .i64 a)), some (.box 1 (.int .i64 70)), some (.mp (H.c ids) (H.l ids)), some (.box 1 (.map 2)), some (.box 1 (.int .i64 a)), loop55 l0 ps ac bd true]
def subI (x : List Int × Int × Bool) : Prop := x.2.2 = false ∧ (∀ m ∈ x.1, 1 ≤ m ∧ m ≤ 1125899906842624) ∧ x.1.Nodup
def conS (A : Ar) (H : EmI) (g : Gra) {P : Program} {E : Em} (l0 : List (Nat × AV)) (ps : Array Tmp) (ac bd : Code) (h0 : l0.all (fun x => x.2.upto 6) = true)
    (hy : ∀ n (x : List Int × Int × Bool) t (d : Nat), subI x → low n t → d ≤ 1000000 → YS P (subSt H l0 ps ac bd x) 5 [.imm (cellsT E t), .int .i64 (d : Int)] (subF A g x t d).2 (subSt H l0 ps ac bd (subF A g x t d).1)) : Con P E where
  σ := List Int × Int × Bool
  st := subSt H l0 ps ac bd
  K := 6
  p := 5
  f := subF A g
  Iv := subI
  len := fun x => by obtain ⟨ids, a, b⟩ := x; cases b <;> rfl
  up := fun x => by
    obtain ⟨ids, a, b⟩ := x
    have := H.upto ids 6
    cases b <;> simp only [subSt, loop55, List.all_cons, List.all_nil, oUpto, AO.upto, AV.upto, this, h0] <;> decide
  lt := by decide
  inv := fun x t d hx h => by
    unfold subF at h ⊢
    split
    · rename_i hc; rw [if_pos hc] at h; cases h
    · rename_i hc
      unfold badN at hc
      simp only [not_or] at hc
      obtain ⟨_, c1, c2, c3, _⟩ := hc
      refine ⟨rfl, fun m hm => ?_, List.nodup_append.2 ⟨hx.2.2, by simp, fun a ha b hb e => ?_⟩⟩
      · rcases List.mem_append.1 hm with hm | hm
        · exact hx.2.1 m hm
        · simp at hm; subst hm; omega
      · simp at hb; subst hb; subst e; exact c3 ha
  ys := fun n x t d hx hl hd => hy n x t d hx hl hd
def subR (A : Ar) (g : Gra) (t : Tree) : Int × Int :=
  if checkB g = false then (0, 50) else if manyB t = true then (0, 70) else
    let r := (runT (subF A g) t 1 ([], 0, false)).1
    if r.2.2 then (r.2.1, 70) else (0, 0)
set_option maxRecDepth 100000 in
set_option maxHeartbeats 4000000 in
theorem Sub28 (A : Ar) (E : Em) (G : EmG) (H : EmN) (R : EmR) (M : EmI) {P : Program} (hP : P = Try.prog) (g : Gra) (hg : g.ok) (n : Nat) (hn : n ≤ 999999) (t : Tree) (hl : low n t) : TPure P 28 [G.gv g, E.tree.v t] (.tup [.int .i64 (subR A g t).1, .int .i64 (subR A g t).2]) := by
  have k51 := walk51 A E hP (cellsT E t) (cellsT_pur E t) 1
  have k54 := walk54 A E hP n t hl
  have k50 := many50 A E hP n hn t hl
  have k14 := Check14 A E G H hP g hg
  have k30 := fun t hl => Node30 A E G H R hP g hg t hl
  obtain ⟨v1, v2, hv⟩ : ∃ v1 v2, (v1, v2) = subR A g t := ⟨_, _, rfl⟩
  rw [← hv]
  unfold subR at hv
  obtain ⟨r, hr⟩ : ∃ r, r = (runT (subF A g) t 1 ([], 0, false)).1 := ⟨_, rfl⟩
  rw [← hr] at hv
  generalize manyB t = mb at k50 hv
  generalize checkB g = cb at k14 hv
  obtain ⟨i, k, s, ks⟩ := t
  obtain ⟨gk, root⟩ := g
  unfold cellsT at k51 k54 k50
  unfold EmG.gv at k14 k30 ⊢
  dsimp only at k14 k30 k54 ⊢
  rw [E.node]
  have p1 : Tw.Pur [.imm [.int .i64 i, .int .i64 k, .str s, .sl 4 (E.tree.l ks)]] := ⟨by have := E.tree.purL ks; simp [purL, AV.pur, this]⟩
  have p2 : Tw.Pur [.sl 3 (G.kind.l gk), .int .i64 root] := Pur.mk (by (repeat (first | exact rfl | exact Emb.purL _ _ | assumption | apply pur_cons | apply pur_sl | apply pur_slt | apply pur_agg | apply pur_tup)))
  have p3 : Tw.Pur [.int .i64 i, .int .i64 k, .str s, .sl 4 (E.tree.l ks)] := Pur.mk (by (repeat (first | exact rfl | exact Emb.purL _ _ | assumption | apply pur_cons | apply pur_sl | apply pur_slt | apply pur_agg | apply pur_tup)))
  refine TPure.ofE A T0 (T0_ok hP) (hP ▸ Try.func28) rfl _ rfl (by simp) ?_
  cbv
  refine EW.vs [(2, .imm [.sl 3 (G.kind.l gk), .int .i64 root]), (3, .imm [.int .i64 i, .int .i64 k, .str s, .sl 4 (E.tree.l ks)]), (4, .ref 0 1 0 0), (5, .ref 1 1 0 0)] [some (.box 1 (.int .i64 0)), some (.box 1 (.int .i64 0))] 55 rfl ?_
  cbv
  (repeat (first | exact trivial | refine And.intro p2 ?_ | refine And.intro p3 ?_ | refine And.intro (Emb.Pur _ _) ?_ | refine And.intro rfl ?_ | refine And.intro (Pur.mk rfl) ?_))
  ((try cbv) <;> (repeat ((with_reducible refine EW.of ?_); cbv)))
  cases cb with
  | false =>
    replace k14 : TPure P 14 [.agg [.sl 3 (G.kind.l gk), .int .i64 root]] (.int .i64 50) := k14
    (refine ⟨Ent.of (hP ▸ Try.func14) rfl, ?_⟩; refine TC.pureE k14 ?_; cbv; (repeat (first | exact trivial | refine And.intro (Emb.Pur _ _) ?_ | refine And.intro rfl ?_ | refine And.intro (Pur.mk rfl) ?_ | refine And.intro (Pur.mk (by assumption)) ?_)); ((try cbv) <;> (repeat ((with_reducible refine EW.of ?_); cbv))))
    refine byes (neT (show (50 : Int) ≠ 0 by decide)) ?_
    cases hv
    ((try cbv) <;> (repeat ((with_reducible refine EW.of ?_); cbv)))
  | true =>
    replace k14 : TPure P 14 [.agg [.sl 3 (G.kind.l gk), .int .i64 root]] (.int .i64 0) := k14
    (refine ⟨Ent.of (hP ▸ Try.func14) rfl, ?_⟩; refine TC.pureE k14 ?_; cbv; (repeat (first | exact trivial | refine And.intro (Emb.Pur _ _) ?_ | refine And.intro rfl ?_ | refine And.intro (Pur.mk rfl) ?_ | refine And.intro (Pur.mk (by assumption)) ?_)); ((try cbv) <;> (repeat ((with_reducible refine EW.of ?_); cbv))))
    refine bno (neF rfl) ?_
    ((try cbv) <;> (repeat ((with_reducible refine EW.of ?_); cbv)))
    (refine ⟨Ent.of (hP ▸ Try.func50) rfl, ?_⟩; refine TC.pureE k50 ?_; cbv; (repeat (first | exact trivial | refine And.intro (Emb.Pur _ _) ?_ | refine And.intro rfl ?_ | refine And.intro (Pur.mk rfl) ?_ | refine And.intro (Pur.mk (by assumption)) ?_)); ((try cbv) <;> (repeat ((with_reducible refine EW.of ?_); cbv))))
    cases mb with
    | true =>
      cases hv
      ((try cbv) <;> (repeat ((with_reducible refine EW.of ?_); cbv)))
    | false =>
      replace hv : (v1, v2) = if r.2.2 = true then (r.2.1, 70) else (0, 0) := hv
      ((try cbv) <;> (repeat ((with_reducible refine EW.of ?_); cbv)))
      (refine ⟨Ent.of (hP ▸ Try.func51) rfl, ?_⟩; refine TC.pureE k51 ?_; cbv; (repeat (first | exact trivial | refine And.intro (Emb.Pur _ _) ?_ | refine And.intro rfl ?_ | refine And.intro (Pur.mk rfl) ?_ | refine And.intro (Pur.mk (by assumption)) ?_)); ((try cbv) <;> (repeat ((with_reducible refine EW.of ?_); cbv))))
      refine TW.vsE [(17, .func (.func 54) [] [.imm [.imm [.int .i64 i, .int .i64 k, .str s, .sl 4 (E.tree.l ks)]], .imm [.int .i64 1]]), (2, .imm [.sl 3 (G.kind.l gk), .int .i64 root]), (4, .ref 0 1 0 0), (5, .ref 1 1 0 0), (6, .ref 3 1 0 0), (7, .ref 4 1 0 0)] [some (.box 1 (.int .i64 0)), some (.box 1 (.int .i64 0)), some (.mp (M.c []) (M.l [])), some (.box 1 (.map 2)), some (.box 1 (.int .i64 0))] 55 rfl ?_
      have hm0 : ([] : Ents) = M.l [] := M.nil.symm
      have hm1 : 0 = M.c [] := M.cnil.symm
      cbv
      (repeat (first | exact trivial | refine And.intro p1 ?_ | refine And.intro p2 ?_ | refine And.intro p3 ?_ | refine And.intro hm0 ?_ | refine And.intro hm1 ?_ | refine And.intro (M.pur _) ?_ | refine And.intro (Emb.Pur _ _) ?_ | refine And.intro rfl ?_ | refine And.intro (Pur.mk rfl) ?_))
      refine TW.range rfl rfl (Ent.of (hP ▸ Try.func54) rfl) ?_
      refine TC.mono (k54 (conS (P := P) (E := E) A M ⟨gk, root⟩ _ _ _ _ ?h0 ?hy) (([], 0, false) : List Int × Int × Bool) 1 ⟨rfl, (fun m hm => absurd hm List.not_mem_nil), List.nodup_nil⟩ (by omega)) ?_
      case h0 =>
        simp only [List.all_cons, List.all_nil, AV.upto, uptoL, uptoL_pur _ _ (E.tree.purL _), uptoL_pur _ _ (G.kind.purL _), Bool.and_true]
        decide
      case hy =>
        rintro n2 ⟨ids, a, b⟩ t2 d2 ⟨hb, hr2, hd⟩ hl2 hd2
        dsimp only at hb hr2 hd
        subst hb
        have k30 := k30 t2 (by
          obtain ⟨i2, k2, s2, ks2⟩ := t2
          cases n2 with
          | zero => exact hl2.elim
          | succ n2 => exact hl2.1)
        obtain ⟨i2, k2, s2, ks2⟩ := t2
        rw [E.node] at k30
        unfold cellsT
        by_cases c1 : 32 < d2
        · have hsub : subF A ⟨gk, root⟩ (ids, a, false) (.node i2 k2 s2 ks2) d2 = ((ids, a, true), false) := if_pos (.inl c1)
          have hyt : A.lt 32 (d2 : Int) = true := ltT (Int.ofNat_lt.2 c1)
          rw [hsub]
          refine YS.of (n := 55) (l1 := [(9, .int .i64 d2), (8, .imm [.int .i64 i2, .int .i64 k2, .str s2, .sl 4 (E.tree.l ks2)]), (19, .int .i64 d2), (18, .imm [.int .i64 i2, .int .i64 k2, .str s2, .sl 4 (E.tree.l ks2)]), (17, .func (.func 54) [] [.imm [.imm [.int .i64 i, .int .i64 k, .str s, .sl 4 (E.tree.l ks)]], .imm [.int .i64 1]]), (2, .imm [.sl 3 (G.kind.l gk), .int .i64 root]), (4, .ref 0 1 0 0), (5, .ref 1 1 0 0), (6, .ref 3 1 0 0), (7, .ref 4 1 0 0)]) rfl rfl rfl ?_ ?_ ?_ ?_ ?_
          · have := M.upto ids 6
            simp only [subSt, loop55, List.all_cons, List.all_nil, oUpto, AO.upto, AV.upto, uptoL, uptoL_pur _ _ (E.tree.purL _), uptoL_pur _ _ (G.kind.purL _), this, Bool.and_true, List.length_cons, List.length_nil]
            decide
          · simp [aputs, aputf, subSt, AV.upto, uptoL, uptoL_pur _ _ (E.tree.purL _), uptoL_pur _ _ (G.kind.purL _)]
          · simp [subSt, AV.upto, uptoL, uptoL_pur _ _ (E.tree.purL _), uptoL_pur _ _ (G.kind.purL _)]
          · intro kk
            refine Tw.of_ewpT (A := A) (T0_ok hP) ?_
            cbv
            ((try cbv) <;> (repeat ((with_reducible refine EW.of ?_); cbv)))
          intro kk
          refine Tw.of_ewpT (A := A) (T0_ok hP) ?_
          cbv
          ((try cbv) <;> (repeat ((with_reducible refine EW.of ?_); cbv)))
          refine byes hyt ?_
          ((try cbv) <;> (repeat ((with_reducible refine EW.of ?_); cbv)))
          refine byes hyt ?_
          ((try cbv) <;> (repeat ((with_reducible refine EW.of ?_); cbv)))
        by_cases c2 : i2 < 1
        · have hsub : subF A ⟨gk, root⟩ (ids, a, false) (.node i2 k2 s2 ks2) d2 = ((ids, a, true), false) := if_pos (.inr (.inl c2))
          have hyt : A.lt i2 1 = true := ltT c2
          rw [hsub]
          refine YS.of (n := 55) (l1 := [(9, .int .i64 d2), (8, .imm [.int .i64 i2, .int .i64 k2, .str s2, .sl 4 (E.tree.l ks2)]), (19, .int .i64 d2), (18, .imm [.int .i64 i2, .int .i64 k2, .str s2, .sl 4 (E.tree.l ks2)]), (17, .func (.func 54) [] [.imm [.imm [.int .i64 i, .int .i64 k, .str s, .sl 4 (E.tree.l ks)]], .imm [.int .i64 1]]), (2, .imm [.sl 3 (G.kind.l gk), .int .i64 root]), (4, .ref 0 1 0 0), (5, .ref 1 1 0 0), (6, .ref 3 1 0 0), (7, .ref 4 1 0 0)]) rfl rfl rfl ?_ ?_ ?_ ?_ ?_
          · have := M.upto ids 6
            simp only [subSt, loop55, List.all_cons, List.all_nil, oUpto, AO.upto, AV.upto, uptoL, uptoL_pur _ _ (E.tree.purL _), uptoL_pur _ _ (G.kind.purL _), this, Bool.and_true, List.length_cons, List.length_nil]
            decide
          · simp [aputs, aputf, subSt, AV.upto, uptoL, uptoL_pur _ _ (E.tree.purL _), uptoL_pur _ _ (G.kind.purL _)]
          · simp [subSt, AV.upto, uptoL, uptoL_pur _ _ (E.tree.purL _), uptoL_pur _ _ (G.kind.purL _)]
          · intro kk
            refine Tw.of_ewpT (A := A) (T0_ok hP) ?_
            cbv
            ((try cbv) <;> (repeat ((with_reducible refine EW.of ?_); cbv)))
          intro kk
          refine Tw.of_ewpT (A := A) (T0_ok hP) ?_
          cbv
          ((try cbv) <;> (repeat ((with_reducible refine EW.of ?_); cbv)))
          refine bno (ltF (Int.ofNat_le.2 (Nat.not_lt.1 c1))) ?_
          ((try cbv) <;> (repeat ((with_reducible refine EW.of ?_); cbv)))
          refine byes hyt ?_
          ((try cbv) <;> (repeat ((with_reducible refine EW.of ?_); cbv)))
          refine byes hyt ?_
          ((try cbv) <;> (repeat ((with_reducible refine EW.of ?_); cbv)))
        by_cases c3 : 1125899906842624 < i2
        · have hsub : subF A ⟨gk, root⟩ (ids, a, false) (.node i2 k2 s2 ks2) d2 = ((ids, a, true), false) := if_pos (.inr (.inr (.inl c3)))
          have hyt : A.lt 1125899906842624 i2 = true := ltT c3
          rw [hsub]
          refine YS.of (n := 55) (l1 := [(9, .int .i64 d2), (8, .imm [.int .i64 i2, .int .i64 k2, .str s2, .sl 4 (E.tree.l ks2)]), (19, .int .i64 d2), (18, .imm [.int .i64 i2, .int .i64 k2, .str s2, .sl 4 (E.tree.l ks2)]), (17, .func (.func 54) [] [.imm [.imm [.int .i64 i, .int .i64 k, .str s, .sl 4 (E.tree.l ks)]], .imm [.int .i64 1]]), (2, .imm [.sl 3 (G.kind.l gk), .int .i64 root]), (4, .ref 0 1 0 0), (5, .ref 1 1 0 0), (6, .ref 3 1 0 0), (7, .ref 4 1 0 0)]) rfl rfl rfl ?_ ?_ ?_ ?_ ?_
          · have := M.upto ids 6
            simp only [subSt, loop55, List.all_cons, List.all_nil, oUpto, AO.upto, AV.upto, uptoL, uptoL_pur _ _ (E.tree.purL _), uptoL_pur _ _ (G.kind.purL _), this, Bool.and_true, List.length_cons, List.length_nil]
            decide
          · simp [aputs, aputf, subSt, AV.upto, uptoL, uptoL_pur _ _ (E.tree.purL _), uptoL_pur _ _ (G.kind.purL _)]
          · simp [subSt, AV.upto, uptoL, uptoL_pur _ _ (E.tree.purL _), uptoL_pur _ _ (G.kind.purL _)]
          · intro kk
            refine Tw.of_ewpT (A := A) (T0_ok hP) ?_
            cbv
            ((try cbv) <;> (repeat ((with_reducible refine EW.of ?_); cbv)))
          intro kk
          refine Tw.of_ewpT (A := A) (T0_ok hP) ?_
          cbv
          ((try cbv) <;> (repeat ((with_reducible refine EW.of ?_); cbv)))
          refine bno (ltF (Int.ofNat_le.2 (Nat.not_lt.1 c1))) ?_
          ((try cbv) <;> (repeat ((with_reducible refine EW.of ?_); cbv)))
          refine bno (ltF (Int.not_lt.1 c2)) ?_
          ((try cbv) <;> (repeat ((with_reducible refine EW.of ?_); cbv)))
          refine byes hyt ?_
          ((try cbv) <;> (repeat ((with_reducible refine EW.of ?_); cbv)))
          refine byes hyt ?_
          ((try cbv) <;> (repeat ((with_reducible refine EW.of ?_); cbv)))
        by_cases c4 : i2 ∈ ids
        · have hsub : subF A ⟨gk, root⟩ (ids, a, false) (.node i2 k2 s2 ks2) d2 = ((ids, a, true), false) := if_pos (.inr (.inr (.inr (.inl c4))))
          rw [hsub]
          refine YS.of (n := 55) (l1 := [(9, .int .i64 d2), (8, .imm [.int .i64 i2, .int .i64 k2, .str s2, .sl 4 (E.tree.l ks2)]), (19, .int .i64 d2), (18, .imm [.int .i64 i2, .int .i64 k2, .str s2, .sl 4 (E.tree.l ks2)]), (17, .func (.func 54) [] [.imm [.imm [.int .i64 i, .int .i64 k, .str s, .sl 4 (E.tree.l ks)]], .imm [.int .i64 1]]), (2, .imm [.sl 3 (G.kind.l gk), .int .i64 root]), (4, .ref 0 1 0 0), (5, .ref 1 1 0 0), (6, .ref 3 1 0 0), (7, .ref 4 1 0 0)]) rfl rfl rfl ?_ ?_ ?_ ?_ ?_
          · have := M.upto ids 6
            simp only [subSt, loop55, List.all_cons, List.all_nil, oUpto, AO.upto, AV.upto, uptoL, uptoL_pur _ _ (E.tree.purL _), uptoL_pur _ _ (G.kind.purL _), this, Bool.and_true, List.length_cons, List.length_nil]
            decide
          · simp [aputs, aputf, subSt, AV.upto, uptoL, uptoL_pur _ _ (E.tree.purL _), uptoL_pur _ _ (G.kind.purL _)]
          · simp [subSt, AV.upto, uptoL, uptoL_pur _ _ (E.tree.purL _), uptoL_pur _ _ (G.kind.purL _)]
          · intro kk
            refine Tw.of_ewpT (A := A) (T0_ok hP) ?_
            cbv
            ((try cbv) <;> (repeat ((with_reducible refine EW.of ?_); cbv)))
          intro kk
          refine Tw.of_ewpT (A := A) (T0_ok hP) ?_
          cbv
          ((try cbv) <;> (repeat ((with_reducible refine EW.of ?_); cbv)))
          refine bno (ltF (Int.ofNat_le.2 (Nat.not_lt.1 c1))) ?_
          ((try cbv) <;> (repeat ((with_reducible refine EW.of ?_); cbv)))
          refine bno (ltF (Int.not_lt.1 c2)) ?_
          ((try cbv) <;> (repeat ((with_reducible refine EW.of ?_); cbv)))
          refine bno (ltF (Int.not_lt.1 c3)) ?_
          ((try cbv) <;> (repeat ((with_reducible refine EW.of ?_); cbv)))
          (refine TW.draw (A := A) (T0_ok hP) (hP ▸ follows_mixed) (by kernel_rfl) rfl ?_; cbv)
          refine ⟨by rw [hP]; exact M.keys hr2 hd (Int.not_lt.1 c2) (Int.not_lt.1 c3), ?_⟩
          refine ⟨some (.bool true), M.lkY hr2 hd c4, ?_⟩
          cbv
          ((try cbv) <;> (repeat ((with_reducible refine EW.of ?_); cbv)))
        cases hnb : nodeB ⟨gk, root⟩ (.node i2 k2 s2 ks2) with
        | false =>
          rw [hnb] at k30
          have hsub : subF A ⟨gk, root⟩ (ids, a, false) (.node i2 k2 s2 ks2) d2 = ((ids, a, true), false) := if_pos (.inr (.inr (.inr (.inr hnb))))
          rw [hsub]
          refine YS.of (n := 55) (l1 := [(9, .int .i64 d2), (8, .imm [.int .i64 i2, .int .i64 k2, .str s2, .sl 4 (E.tree.l ks2)]), (19, .int .i64 d2), (18, .imm [.int .i64 i2, .int .i64 k2, .str s2, .sl 4 (E.tree.l ks2)]), (17, .func (.func 54) [] [.imm [.imm [.int .i64 i, .int .i64 k, .str s, .sl 4 (E.tree.l ks)]], .imm [.int .i64 1]]), (2, .imm [.sl 3 (G.kind.l gk), .int .i64 root]), (4, .ref 0 1 0 0), (5, .ref 1 1 0 0), (6, .ref 3 1 0 0), (7, .ref 4 1 0 0)]) rfl rfl rfl ?_ ?_ ?_ ?_ ?_
          · have := M.upto ids 6
            simp only [subSt, loop55, List.all_cons, List.all_nil, oUpto, AO.upto, AV.upto, uptoL, uptoL_pur _ _ (E.tree.purL _), uptoL_pur _ _ (G.kind.purL _), this, Bool.and_true, List.length_cons, List.length_nil]
            decide
          · simp [aputs, aputf, subSt, AV.upto, uptoL, uptoL_pur _ _ (E.tree.purL _), uptoL_pur _ _ (G.kind.purL _)]
          · simp [subSt, AV.upto, uptoL, uptoL_pur _ _ (E.tree.purL _), uptoL_pur _ _ (G.kind.purL _)]
          · intro kk
            refine Tw.of_ewpT (A := A) (T0_ok hP) ?_
            cbv
            ((try cbv) <;> (repeat ((with_reducible refine EW.of ?_); cbv)))
          intro kk
          refine Tw.of_ewpT (A := A) (T0_ok hP) ?_
          cbv
          ((try cbv) <;> (repeat ((with_reducible refine EW.of ?_); cbv)))
          refine bno (ltF (Int.ofNat_le.2 (Nat.not_lt.1 c1))) ?_
          ((try cbv) <;> (repeat ((with_reducible refine EW.of ?_); cbv)))
          refine bno (ltF (Int.not_lt.1 c2)) ?_
          ((try cbv) <;> (repeat ((with_reducible refine EW.of ?_); cbv)))
          refine bno (ltF (Int.not_lt.1 c3)) ?_
          ((try cbv) <;> (repeat ((with_reducible refine EW.of ?_); cbv)))
          (refine TW.draw (A := A) (T0_ok hP) (hP ▸ follows_mixed) (by kernel_rfl) rfl ?_; cbv)
          refine ⟨by rw [hP]; exact M.keys hr2 hd (Int.not_lt.1 c2) (Int.not_lt.1 c3), ?_⟩
          refine ⟨none, M.lkN c4, ?_⟩
          cbv
          ((try cbv) <;> (repeat ((with_reducible refine EW.of ?_); cbv)))
          (refine TW.draw (A := A) (T0_ok hP) (hP ▸ follows_mixed) (by kernel_rfl) rfl ?_; cbv)
          (refine ⟨Ent.of (hP ▸ Try.func30) rfl, ?_⟩; refine ⟨_, TC.pureX k30 (by cbv; (repeat (first | exact trivial | refine And.intro (Emb.Pur _ _) ?_ | refine And.intro rfl ?_ | refine And.intro (Pur.mk rfl) ?_ | refine And.intro (Pur.mk (by assumption)) ?_))), ?_⟩; cbv)
          ((try cbv) <;> (repeat ((with_reducible refine EW.of ?_); cbv)))
        | true =>
          rw [hnb] at k30
          have hsub : subF A ⟨gk, root⟩ (ids, a, false) (.node i2 k2 s2 ks2) d2 = ((ids ++ [i2], A.op .add .i64 a 1, false), true) := if_neg (fun hb => by
            rcases hb with hb | hb | hb | hb | hb
            · exact c1 hb
            · exact c2 hb
            · exact c3 hb
            · exact c4 hb
            · rw [hnb] at hb; cases hb)
          rw [hsub]
          refine YS.of (n := 55) (l1 := [(9, .int .i64 d2), (8, .imm [.int .i64 i2, .int .i64 k2, .str s2, .sl 4 (E.tree.l ks2)]), (19, .int .i64 d2), (18, .imm [.int .i64 i2, .int .i64 k2, .str s2, .sl 4 (E.tree.l ks2)]), (17, .func (.func 54) [] [.imm [.imm [.int .i64 i, .int .i64 k, .str s, .sl 4 (E.tree.l ks)]], .imm [.int .i64 1]]), (2, .imm [.sl 3 (G.kind.l gk), .int .i64 root]), (4, .ref 0 1 0 0), (5, .ref 1 1 0 0), (6, .ref 3 1 0 0), (7, .ref 4 1 0 0)]) rfl rfl rfl ?_ ?_ ?_ ?_ ?_
          · have := M.upto ids 6
            simp only [subSt, loop55, List.all_cons, List.all_nil, oUpto, AO.upto, AV.upto, uptoL, uptoL_pur _ _ (E.tree.purL _), uptoL_pur _ _ (G.kind.purL _), this, Bool.and_true, List.length_cons, List.length_nil]
            decide
          · simp [aputs, aputf, subSt, AV.upto, uptoL, uptoL_pur _ _ (E.tree.purL _), uptoL_pur _ _ (G.kind.purL _)]
          · simp [subSt, AV.upto, uptoL, uptoL_pur _ _ (E.tree.purL _), uptoL_pur _ _ (G.kind.purL _)]
          · intro kk
            refine Tw.of_ewpT (A := A) (T0_ok hP) ?_
            cbv
            ((try cbv) <;> (repeat ((with_reducible refine EW.of ?_); cbv)))
          intro kk
          refine Tw.of_ewpT (A := A) (T0_ok hP) ?_
          cbv
          ((try cbv) <;> (repeat ((with_reducible refine EW.of ?_); cbv)))
          refine bno (ltF (Int.ofNat_le.2 (Nat.not_lt.1 c1))) ?_
          ((try cbv) <;> (repeat ((with_reducible refine EW.of ?_); cbv)))
          refine bno (ltF (Int.not_lt.1 c2)) ?_
          ((try cbv) <;> (repeat ((with_reducible refine EW.of ?_); cbv)))
          refine bno (ltF (Int.not_lt.1 c3)) ?_
          ((try cbv) <;> (repeat ((with_reducible refine EW.of ?_); cbv)))
          (refine TW.draw (A := A) (T0_ok hP) (hP ▸ follows_mixed) (by kernel_rfl) rfl ?_; cbv)
          refine ⟨by rw [hP]; exact M.keys hr2 hd (Int.not_lt.1 c2) (Int.not_lt.1 c3), ?_⟩
          refine ⟨none, M.lkN c4, ?_⟩
          cbv
          ((try cbv) <;> (repeat ((with_reducible refine EW.of ?_); cbv)))
          (refine TW.draw (A := A) (T0_ok hP) (hP ▸ follows_mixed) (by kernel_rfl) rfl ?_; cbv)
          (refine ⟨Ent.of (hP ▸ Try.func30) rfl, ?_⟩; refine ⟨_, TC.pureX k30 (by cbv; (repeat (first | exact trivial | refine And.intro (Emb.Pur _ _) ?_ | refine And.intro rfl ?_ | refine And.intro (Pur.mk rfl) ?_ | refine And.intro (Pur.mk (by assumption)) ?_))), ?_⟩; cbv)
          ((try cbv) <;> (repeat ((with_reducible refine EW.of ?_); cbv)))
          (refine TW.drawT (A := A) (T0_ok hP) (hP ▸ follows_mixed) (by cbv) rfl (by cbv) rfl rfl rfl ?_; cbv)
          refine ⟨by rw [hP]; exact M.keys hr2 hd (Int.not_lt.1 c2) (Int.not_lt.1 c3), ?_⟩
          refine ⟨_, _, M.up c4, ?_⟩
          cbv
          ((try cbv) <;> (repeat ((with_reducible refine EW.of ?_); cbv)))
      rintro e L1 ⟨rfl, rfl⟩
      dsimp only [conS]
      rw [← hr]
      obtain ⟨rids, ra, rb⟩ := r
      cases rb with
      | false =>
        cases hv
        dsimp only [subSt, loop55]
        cbv
        ((try cbv) <;> (repeat ((with_reducible refine EW.of ?_); cbv)))
      | true =>
        cases hv
        dsimp only [subSt, loop55]
        cbv
end Go.Proofs.Ytlngpfocngfokaa
