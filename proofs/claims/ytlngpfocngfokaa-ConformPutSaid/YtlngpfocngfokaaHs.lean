import Derived.Test.YtlngpfocngfokaaHr
/-! A tree with another node in the place of the k-th one of its walk. -/
namespace Go.Proofs.Ytlngpfocngfokaa
open Go.Proofs.Ytlngpfocngfokaa.Tw
mutual
def putT (x : Tree) (k : Nat) : Tree → Nat → Tree × Nat
  | .node i kd s ks, n => if n = k then (x, n + 1) else (.node i kd s (putK x k ks (n + 1)).1, (putK x k ks (n + 1)).2)
def putK (x : Tree) (k : Nat) : List Tree → Nat → List Tree × Nat
  | [], n => ([], n)
  | t :: ts, n => ((putT x k t n).1 :: (putK x k ts (putT x k t n).2).1, (putK x k ts (putT x k t n).2).2)
end
theorem putK_app (x : Tree) (k : Nat) : ∀ (a b : List Tree) (n : Nat), putK x k (a ++ b) n = ((putK x k a n).1 ++ (putK x k b (putK x k a n).2).1, (putK x k b (putK x k a n).2).2)
  | [], b, n => rfl
  | t :: a, b, n => by rw [List.cons_append, putK, putK, putK_app x k a b]; rfl
theorem putK_len (x : Tree) (k : Nat) : ∀ (a : List Tree) (n : Nat), (putK x k a n).1.length = a.length
  | [], n => rfl
  | t :: a, n => by rw [putK]; simp [putK_len x k a]
mutual
theorem putT_le (x : Tree) (k : Nat) : ∀ (t : Tree) (n d : Nat), (putT x k t n).2 ≤ n + (ordT t d).length
  | .node i kd s ks, n, d => by
    rw [putT, ordT, List.length_cons]
    split
    · simp
    · have := putK_le x k ks (n + 1) (d + 1)
      simp only
      omega
theorem putK_le (x : Tree) (k : Nat) : ∀ (ts : List Tree) (n d : Nat), (putK x k ts n).2 ≤ n + (ordK ts d).length
  | [], n, d => by simp [putK]
  | t :: ts, n, d => by
    have h1 := putT_le x k t n d
    have h2 := putK_le x k ts (putT x k t n).2 d
    rw [putK, ordK, List.length_append]
    simp only
    omega
end
def stT (E : Em) : Option (Nat × List Tree) → Store
  | none => []
  | some (_, l) => [some (.arr 4 (E.tree.l l))]
def rowT (p : Nat) : Option (Nat × List Tree) → AV
  | none => .nils
  | some (m, _) => .row p 4 0 m
def outT : Option (Nat × List Tree) → List Tree
  | none => []
  | some (_, l) => l
def okT : Option (Nat × List Tree) → Prop
  | none => True
  | some (m, l) => m = l.length
theorem ordK_take {ts : List Tree} {j : Nat} {t : Tree} (h : ts[j]? = some t) (d : Nat) : (ordK (ts.take j) d).length + (ordT t d).length ≤ (ordK ts d).length := by
  induction ts generalizing j with
  | nil => simp at h
  | cons u ts ih =>
    cases j with
    | zero => simp at h; subst h; simp [ordK]
    | succ j =>
      have := ih (j := j) (by simpa using h)
      simp only [List.take_succ_cons, ordK, List.length_append]
      omega
set_option maxHeartbeats 4000000 in
theorem put35 (A : Ar) (E : Em) {P : Program} (hP : P = Try.prog) (x : Tree) (k : Nat) : ∀ (m : Nat) (t : Tree) (n : Nat), SizeOf.sizeOf t ≤ m → n + (ordT t 1).length ≤ 1000000 →
    TC1 P 35 [E.tree.v t, E.tree.v x, .int .i64 (k : Int), .ref 0 1 0 0] [some (.box 1 (.int .i64 (n : Int)))] (E.tree.v (putT x k t n).1) [some (.box 1 (.int .i64 ((putT x k t n).2 : Int)))]
  | 0, .node i kd s ks, n, hm, hn => by simp at hm
  | m + 1, .node i kd s ks, n, hm, hn => by
    have ih := put35 A E hP x k m
    have hkt : ∀ j t, ks[j]? = some t → SizeOf.sizeOf t ≤ m := fun j t h => by
      have := List.sizeOf_lt_of_mem (List.mem_of_getElem? h)
      simp at hm
      omega
    rw [ordT, List.length_cons] at hn
    have hks : ks.length ≤ 1000000 := by have := ordK_len ks (1 + 1); omega
    have hinc : A.op .add .i64 (n : Int) 1 = ((n + 1 : Nat) : Int) := inc_eq A (by omega)
    obtain ⟨V, hV⟩ : ∃ V, V = E.tree.v (putT x k (.node i kd s ks) n).1 := ⟨_, rfl⟩
    obtain ⟨W, hW⟩ : ∃ W : Int, W = ((putT x k (.node i kd s ks) n).2 : Int) := ⟨_, rfl⟩
    rw [← hV, ← hW]
    rw [putT] at hV hW
    have hll := E.tree.len ks
    have hlk : A.len (E.tree.l ks) = (ks.length : Int) := by rw [A.ok_len, hll]
    obtain ⟨ix, kx, sx, kxs⟩ := x
    have ex := E.node ix kx sx kxs
    obtain ⟨x, hx⟩ : ∃ x, x = Tree.node ix kx sx kxs := ⟨_, rfl⟩
    rw [← hx] at ih hV hW ex ⊢
    rw [ex] at ih ⊢
    rw [E.node i kd s ks]
    obtain ⟨nn, hnn⟩ : ∃ z : Int, z = (n : Int) := ⟨_, rfl⟩
    rw [← hnn] at hinc ⊢
    obtain ⟨kk, hkk⟩ : ∃ z : Int, z = (k : Int) := ⟨_, rfl⟩
    rw [← hkk] at ih ⊢
    have p1 : Tw.Pur [.int .i64 ix, .int .i64 kx, .str sx, .sl 4 (E.tree.l kxs)] := Pur.mk (by (repeat (first | exact rfl | exact Emb.purL _ _ | assumption | apply pur_cons | apply pur_sl | apply pur_slt | apply pur_agg | apply pur_tup)))
    have p2 : Tw.Pur [.int .i64 i, .int .i64 kd, .str s, .sl 4 (E.tree.l ks)] := Pur.mk (by (repeat (first | exact rfl | exact Emb.purL _ _ | assumption | apply pur_cons | apply pur_sl | apply pur_slt | apply pur_agg | apply pur_tup)))
    refine TC1.of A _ _ T0 (T0_ok hP) (hP ▸ Try.func35) rfl _ rfl (by simp) ?_
    cbv
    ((try cbv) <;> (repeat ((with_reducible refine EW.of ?_); cbv)))
    refine bsplit (fun h => ?_) (fun h => ?_)
    · have h : n = k := Int.ofNat_inj.1 (eq_t h hnn hkk)
      rw [if_pos h] at hV hW
      obtain rfl : _ = V := ex.symm.trans hV.symm
      obtain rfl : _ = W := hinc.trans hW.symm
      ((try cbv) <;> (repeat ((with_reducible refine EW.of ?_); cbv)))
      refine R1.of ?_
      cbv
      (repeat (first | exact trivial | refine And.intro (Emb.Pur _ _) ?_ | refine And.intro rfl ?_ | refine And.intro p1 ?_ | refine And.intro p2 ?_ | refine And.intro hinc ?_ | refine And.intro (inc_eq A (by omega)) ?_))
    have h : ¬ n = k := fun e => eq_f h hnn hkk (Int.ofNat_inj.2 e)
    rw [if_neg h] at hV hW
    ((try cbv) <;> (repeat ((with_reducible refine EW.of ?_); cbv)))
    obtain ⟨S, hS⟩ : ∃ S : LI (Nat × Nat × Option (Nat × List Tree)), S = ⟨fun x => [(35, .int .i64 x.1), (34, .int .i64 (A.len (E.tree.l ks))), (10, .ref 2 4 0 0), (8, .ref 1 4 0 0), (5, .imm [.int .i64 ix, .int .i64 kx, .str sx, .sl 4 (E.tree.l kxs)]), (4, .imm [.int .i64 i, .int .i64 kd, .str s, .sl 4 (E.tree.l ks)]), (2, .int .i64 kk), (3, .ref 0 1 0 0)],
      fun x => [some (.box 1 (.int .i64 (x.2.1 : Int))), some (.box 4 (.agg [.int .i64 0, .int .i64 0, .str ⟨#[]⟩, .nils])), some (.box 4 (.agg [.int .i64 i, .int .i64 kd, .str s, rowT 3 x.2.2]))] ++ stT E x.2.2, fun y => y.1 ≤ ks.length ∧ okT y.2.2 ∧ (outT y.2.2, y.2.1) = putK x k (ks.take y.1) (n + 1), fun x => ks.length - x.1⟩ := ⟨_, rfl⟩
    refine TW.loopM A (T0_ok hP) S _ rfl (0, n + 1, none) ?_ ?_ ?_
    · rw [hS]; exact ⟨Nat.zero_le _, trivial, rfl⟩
    · rw [hS]
      cbv
      (repeat (first | exact trivial | refine And.intro (Emb.Pur _ _) ?_ | refine And.intro rfl ?_ | refine And.intro p1 ?_ | refine And.intro p2 ?_ | refine And.intro hinc ?_ | refine And.intro (inc_eq A (by omega)) ?_))
    rintro ⟨j, c, o⟩ hj l1 L1 e1 e2
    rw [hS] at hj e1 e2
    dsimp only at hj e1 e2
    obtain ⟨hj, hok, hout⟩ := hj
    subst e1
    obtain ⟨lo, hlo⟩ : ∃ l, l = outT o := ⟨_, rfl⟩
    rw [← hlo] at hout
    cases o with
    | none =>
      dsimp only [stT, rowT, outT, okT] at e2 hok hlo ⊢
      subst e2
      cbv
      ((try cbv) <;> (repeat ((with_reducible refine EW.of ?_); cbv)))
      refine bsplit (fun h => ?_) (fun h => ?_)
      · have h : j < ks.length := lt_nt h rfl hlk
        obtain ⟨t', ht'⟩ : ∃ t', ks[j]? = some t' := ⟨_, List.getElem?_eq_getElem h⟩
        have htk : ks.take (j + 1) = ks.take j ++ [t'] := by rw [List.take_add_one, ht']; rfl
        have hput : putK x k (ks.take (j + 1)) (n + 1) = (lo ++ [(putT x k t' c).1], (putT x k t' c).2) := by rw [htk, putK_app, ← hout]; rfl
        have hle := ordK_take ht' 1
        have hcb := putK_le x k (ks.take j) (n + 1) 1
        rw [← hout] at hcb
        have hll2 := ordK_up 1 ks 1
        have hll3 := congrArg List.length hll2
        rw [List.length_map] at hll3
        have c35 := ih t' c (hkt j t' ht') (by dsimp only at hcb; omega)
        have hlol : lo.length = j := by have := congrArg (fun z => z.1.length) hout; rw [putK_len] at this; simp at this; omega
        have hgt := E.tree.get ht'
        obtain ⟨y, hy⟩ : ∃ y, y = (putT x k t' c).1 := ⟨_, rfl⟩
        obtain ⟨c2, hc2⟩ : ∃ y, y = (putT x k t' c).2 := ⟨_, rfl⟩
        rw [← hy, ← hc2] at c35 hput
        obtain ⟨i', k', s', ks'⟩ := t'
        rw [E.node] at hgt c35
        obtain ⟨yi, yk, ys, yks⟩ := y
        have hyy := E.node yi yk ys yks
        rw [hyy] at c35
        obtain ⟨y, hy2⟩ : ∃ y, y = Tree.node yi yk ys yks := ⟨_, rfl⟩
        rw [← hy2] at hyy hput
        obtain ⟨l9, hl9⟩ : ∃ d, d = lo ++ [y] := ⟨_, rfl⟩
        obtain ⟨q9, hq9⟩ : ∃ q, q = l9.length := ⟨_, rfl⟩
        have hlen9 : l9.length ≤ 1000001 := by rw [hl9]; simp; omega
        have p4 : Tw.Pur [.int .i64 i', .int .i64 k', .str s', .sl 4 (E.tree.l ks')] := Pur.mk (by (repeat (first | exact rfl | exact Emb.purL _ _ | assumption | apply pur_cons | apply pur_sl | apply pur_slt | apply pur_agg | apply pur_tup)))
        have p5 : Tw.Pur [.int .i64 yi, .int .i64 yk, .str ys, .sl 4 (E.tree.l yks)] := Pur.mk (by (repeat (first | exact rfl | exact Emb.purL _ _ | assumption | apply pur_cons | apply pur_sl | apply pur_slt | apply pur_agg | apply pur_tup)))
        ((try cbv) <;> (repeat ((with_reducible refine EW.of ?_); cbv)))
        refine TW.drawB (A := A) 8 9 (.agg [.int .i64 yi, .int .i64 yk, .str ys, .sl 4 (E.tree.l yks)]) (.agg [.int .i64 0, .int .i64 0, .str ⟨#[]⟩, .nils]) [some (.box 1 (.int .i64 (c2 : Int))), some (.box 4 (.agg [.int .i64 0, .int .i64 0, .str ⟨#[]⟩, .nils])), some (.box 4 (.agg [.int .i64 i, .int .i64 kd, .str s, .nils]))] (T0_ok hP) (hP ▸ follows_mixed) (by kernel_rfl) rfl (by kernel_rfl) rfl rfl rfl rfl rfl rfl rfl rfl rfl rfl ?_ ?_ ?_
        · skip
          cbv
          (repeat (first | exact trivial | refine And.intro (Emb.Pur _ _) ?_ | refine And.intro rfl ?_ | refine And.intro p1 ?_ | refine And.intro p2 ?_ | refine And.intro hinc ?_ | refine And.intro (inc_eq A (by omega)) ?_))
        · skip
          cbv
          (repeat (first | exact trivial | refine And.intro (Emb.Pur _ _) ?_ | refine And.intro rfl ?_ | refine And.intro p1 ?_ | refine And.intro p2 ?_ | refine And.intro hinc ?_ | refine And.intro (inc_eq A (by omega)) ?_))
        cbv
        refine ⟨j, _, rfl, hgt, ?_⟩
        cbv
        refine ⟨⟨Ent.of (hP ▸ Try.func35) rfl, _, _, TC1.call [0] c35 ?_, rfl, rfl⟩, ⟨Ent.of (hP ▸ Try.func35) rfl, _, _, TC1.call [0] c35 ?_, rfl, rfl⟩, ?_⟩
        · skip
          cbv
          (repeat (first | exact trivial | refine And.intro (Emb.Pur _ _) ?_ | refine And.intro rfl ?_ | refine And.intro p1 ?_ | refine And.intro p2 ?_ | refine And.intro hinc ?_ | refine And.intro (inc_eq A (by omega)) ?_))
        · skip
          cbv
          (repeat (first | exact trivial | refine And.intro (Emb.Pur _ _) ?_ | refine And.intro rfl ?_ | refine And.intro p1 ?_ | refine And.intro p2 ?_ | refine And.intro hinc ?_ | refine And.intro (inc_eq A (by omega)) ?_))
        cbv
        ((try cbv) <;> (repeat ((with_reducible refine EW.of ?_); cbv)))
        first
          | refine ⟨⟨by rfl⟩, q9, E.tree.l l9, by rw [hq9, hl9, hlo]; first | done | rfl, by rw [hl9, hlo, List.nil_append, E.tree.cons, E.tree.nil, hyy]; first | done | rfl, Nat.zero_le _, by omega, by omega, ?_⟩
          | refine ⟨⟨by rfl⟩, q9, E.tree.l l9, by rw [hq9, hl9, hlo, hok]; simp, by rw [hl9, hlo, E.tree.app, E.tree.cons, E.tree.nil, hyy, List.take_of_length_le (by rw [E.tree.len, hok]; exact Nat.le_refl _)], by rw [E.tree.len, hok]; exact Nat.le_refl _, by omega, by omega, ?_⟩
        cbv
        ((try cbv) <;> (repeat ((with_reducible refine EW.of ?_); cbv)))
        refine LM.of (j + 1, c2, some (q9, l9)) rfl ?_ ?_ ?_
        · rw [hS]; exact ⟨h, hq9, by show (l9, c2) = _; rw [hput, hl9]⟩
        · rw [hS]; show ks.length - (j + 1) < ks.length - j; omega
        · rw [hS]
          cbv
          (repeat (first | exact trivial | refine And.intro (Emb.Pur _ _) ?_ | refine And.intro rfl ?_ | refine And.intro p1 ?_ | refine And.intro p2 ?_ | refine And.intro hinc ?_ | refine And.intro (inc_eq A (by omega)) ?_))
      · have h : ks.length ≤ j := lt_nf h rfl hlk
        rw [List.take_of_length_le h] at hout
        rw [← hout] at hV hW
        dsimp only at hV hW
        rw [E.node, hlo] at hV
        try rw [E.tree.nil] at hV
        subst hV hW
        ((try cbv) <;> (repeat ((with_reducible refine EW.of ?_); cbv)))
        refine R1.of ?_
        cbv
        (repeat (first | exact trivial | refine And.intro (Emb.Pur _ _) ?_ | refine And.intro rfl ?_ | refine And.intro p1 ?_ | refine And.intro p2 ?_ | refine And.intro hinc ?_ | refine And.intro (inc_eq A (by omega)) ?_))
        all_goals exact ⟨E.tree.cut hok, E.tree.Pur _, trivial⟩
    | some z =>
      obtain ⟨q, l⟩ := z
      dsimp only [stT, rowT, outT, okT] at e2 hok hlo ⊢
      subst e2
      cbv
      ((try cbv) <;> (repeat ((with_reducible refine EW.of ?_); cbv)))
      refine bsplit (fun h => ?_) (fun h => ?_)
      · have h : j < ks.length := lt_nt h rfl hlk
        obtain ⟨t', ht'⟩ : ∃ t', ks[j]? = some t' := ⟨_, List.getElem?_eq_getElem h⟩
        have htk : ks.take (j + 1) = ks.take j ++ [t'] := by rw [List.take_add_one, ht']; rfl
        have hput : putK x k (ks.take (j + 1)) (n + 1) = (lo ++ [(putT x k t' c).1], (putT x k t' c).2) := by rw [htk, putK_app, ← hout]; rfl
        have hle := ordK_take ht' 1
        have hcb := putK_le x k (ks.take j) (n + 1) 1
        rw [← hout] at hcb
        have hll2 := ordK_up 1 ks 1
        have hll3 := congrArg List.length hll2
        rw [List.length_map] at hll3
        have c35 := ih t' c (hkt j t' ht') (by dsimp only at hcb; omega)
        have hlol : lo.length = j := by have := congrArg (fun z => z.1.length) hout; rw [putK_len] at this; simp at this; omega
        have hgt := E.tree.get ht'
        obtain ⟨y, hy⟩ : ∃ y, y = (putT x k t' c).1 := ⟨_, rfl⟩
        obtain ⟨c2, hc2⟩ : ∃ y, y = (putT x k t' c).2 := ⟨_, rfl⟩
        rw [← hy, ← hc2] at c35 hput
        obtain ⟨i', k', s', ks'⟩ := t'
        rw [E.node] at hgt c35
        obtain ⟨yi, yk, ys, yks⟩ := y
        have hyy := E.node yi yk ys yks
        rw [hyy] at c35
        obtain ⟨y, hy2⟩ : ∃ y, y = Tree.node yi yk ys yks := ⟨_, rfl⟩
        rw [← hy2] at hyy hput
        obtain ⟨l9, hl9⟩ : ∃ d, d = lo ++ [y] := ⟨_, rfl⟩
        obtain ⟨q9, hq9⟩ : ∃ q, q = l9.length := ⟨_, rfl⟩
        have hlen9 : l9.length ≤ 1000001 := by rw [hl9]; simp; omega
        have p4 : Tw.Pur [.int .i64 i', .int .i64 k', .str s', .sl 4 (E.tree.l ks')] := Pur.mk (by (repeat (first | exact rfl | exact Emb.purL _ _ | assumption | apply pur_cons | apply pur_sl | apply pur_slt | apply pur_agg | apply pur_tup)))
        have p5 : Tw.Pur [.int .i64 yi, .int .i64 yk, .str ys, .sl 4 (E.tree.l yks)] := Pur.mk (by (repeat (first | exact rfl | exact Emb.purL _ _ | assumption | apply pur_cons | apply pur_sl | apply pur_slt | apply pur_agg | apply pur_tup)))
        ((try cbv) <;> (repeat ((with_reducible refine EW.of ?_); cbv)))
        refine TW.drawB (A := A) 8 9 (.agg [.int .i64 yi, .int .i64 yk, .str ys, .sl 4 (E.tree.l yks)]) (.agg [.int .i64 0, .int .i64 0, .str ⟨#[]⟩, .nils]) [some (.box 1 (.int .i64 (c2 : Int))), some (.box 4 (.agg [.int .i64 0, .int .i64 0, .str ⟨#[]⟩, .nils])), some (.box 4 (.agg [.int .i64 i, .int .i64 kd, .str s, .row 3 4 0 q])), some (.arr 4 (E.tree.l l))] (T0_ok hP) (hP ▸ follows_mixed) (by kernel_rfl) rfl (by kernel_rfl) rfl rfl rfl rfl rfl rfl rfl rfl rfl rfl ?_ ?_ ?_
        · skip
          cbv
          (repeat (first | exact trivial | refine And.intro (Emb.Pur _ _) ?_ | refine And.intro rfl ?_ | refine And.intro p1 ?_ | refine And.intro p2 ?_ | refine And.intro hinc ?_ | refine And.intro (inc_eq A (by omega)) ?_))
        · skip
          cbv
          (repeat (first | exact trivial | refine And.intro (Emb.Pur _ _) ?_ | refine And.intro rfl ?_ | refine And.intro p1 ?_ | refine And.intro p2 ?_ | refine And.intro hinc ?_ | refine And.intro (inc_eq A (by omega)) ?_))
        cbv
        refine ⟨j, _, rfl, hgt, ?_⟩
        cbv
        refine ⟨⟨Ent.of (hP ▸ Try.func35) rfl, _, _, TC1.call [0] c35 ?_, rfl, rfl⟩, ⟨Ent.of (hP ▸ Try.func35) rfl, _, _, TC1.call [0] c35 ?_, rfl, rfl⟩, ?_⟩
        · skip
          cbv
          (repeat (first | exact trivial | refine And.intro (Emb.Pur _ _) ?_ | refine And.intro rfl ?_ | refine And.intro p1 ?_ | refine And.intro p2 ?_ | refine And.intro hinc ?_ | refine And.intro (inc_eq A (by omega)) ?_))
        · skip
          cbv
          (repeat (first | exact trivial | refine And.intro (Emb.Pur _ _) ?_ | refine And.intro rfl ?_ | refine And.intro p1 ?_ | refine And.intro p2 ?_ | refine And.intro hinc ?_ | refine And.intro (inc_eq A (by omega)) ?_))
        cbv
        ((try cbv) <;> (repeat ((with_reducible refine EW.of ?_); cbv)))
        first
          | refine ⟨⟨by rfl⟩, q9, E.tree.l l9, by rw [hq9, hl9, hlo]; first | done | rfl, by rw [hl9, hlo, List.nil_append, E.tree.cons, E.tree.nil, hyy]; first | done | rfl, Nat.zero_le _, by omega, by omega, ?_⟩
          | refine ⟨⟨by rfl⟩, q9, E.tree.l l9, by rw [hq9, hl9, hlo, hok]; simp, by rw [hl9, hlo, E.tree.app, E.tree.cons, E.tree.nil, hyy, List.take_of_length_le (by rw [E.tree.len, hok]; exact Nat.le_refl _)], by rw [E.tree.len, hok]; exact Nat.le_refl _, by omega, by omega, ?_⟩
        cbv
        ((try cbv) <;> (repeat ((with_reducible refine EW.of ?_); cbv)))
        refine LM.of (j + 1, c2, some (q9, l9)) rfl ?_ ?_ ?_
        · rw [hS]; exact ⟨h, hq9, by show (l9, c2) = _; rw [hput, hl9]⟩
        · rw [hS]; show ks.length - (j + 1) < ks.length - j; omega
        · rw [hS]
          cbv
          (repeat (first | exact trivial | refine And.intro (Emb.Pur _ _) ?_ | refine And.intro rfl ?_ | refine And.intro p1 ?_ | refine And.intro p2 ?_ | refine And.intro hinc ?_ | refine And.intro (inc_eq A (by omega)) ?_))
      · have h : ks.length ≤ j := lt_nf h rfl hlk
        rw [List.take_of_length_le h] at hout
        rw [← hout] at hV hW
        dsimp only at hV hW
        rw [E.node, hlo] at hV
        try rw [E.tree.nil] at hV
        subst hV hW
        ((try cbv) <;> (repeat ((with_reducible refine EW.of ?_); cbv)))
        refine R1.of ?_
        cbv
        (repeat (first | exact trivial | refine And.intro (Emb.Pur _ _) ?_ | refine And.intro rfl ?_ | refine And.intro p1 ?_ | refine And.intro p2 ?_ | refine And.intro hinc ?_ | refine And.intro (inc_eq A (by omega)) ?_))
        all_goals exact ⟨E.tree.cut hok, E.tree.Pur _, trivial⟩
end Go.Proofs.Ytlngpfocngfokaa
