import Derived.Test.YtmbbdabcbnemiaaRg
/-! A node behind bytes. -/
namespace Go.Proofs.Ytmbbdabcbnemiaa
open Go.Proofs.Ytmbbdabcbnemiaa.Tw
mutual
/-- A node's bytes. -/
def nodeBs : Tree → List UInt8
  | .node i k s ks => numBs i ++ (numBs k ++ ((numBs s.size ++ s.data.toList) ++ (numBs ks.length ++ nodesBs ks)))
def nodesBs : List Tree → List UInt8
  | [] => []
  | t :: ts => nodeBs t ++ nodesBs ts
end
theorem nodesBs_app : ∀ a b : List Tree, nodesBs (a ++ b) = nodesBs a ++ nodesBs b
  | [], b => rfl
  | t :: a, b => by simp only [List.cons_append, nodesBs, nodesBs_app a b, List.append_assoc]
theorem nodesBs_take {ks : List Tree} {j : Nat} {t : Tree} (h : ks[j]? = some t) : nodesBs (ks.take (j + 1)) = nodesBs (ks.take j) ++ nodeBs t := by
  rw [List.take_add_one, h, nodesBs_app]
  show _ ++ (nodeBs t ++ []) = _
  rw [List.append_nil]
theorem nodesBs_le (ks : List Tree) (j : Nat) : (nodesBs (ks.take j)).length ≤ (nodesBs ks).length := by
  conv => rhs; rw [← List.take_append_drop j ks, nodesBs_app, List.length_append]
  omega
theorem nodesBs_ge : ∀ ks : List Tree, 32 * ks.length ≤ (nodesBs ks).length
  | [] => Nat.le_refl _
  | .node i k s ks :: ts => by
    have := nodesBs_ge ts
    rw [nodesBs, nodeBs]
    simp only [List.length_append, List.length_cons, numBs_len]
    omega
theorem app_len {xs ys zs : List UInt8} (h : xs ++ ys = zs) : zs.length = xs.length + ys.length := by rw [← h, List.length_append]
theorem text_len (s : ByteArray) : (numBs s.size ++ s.data.toList).length = 8 + s.size := by rw [List.length_append, numBs_len, Array.length_toList]; rfl
set_option maxHeartbeats 4000000 in
theorem node40r (A : Ar) (E : Em) (B : EmB) {P : Program} (hP : P = Try.prog) : ∀ (sz : Nat) (i k : Int) (s : ByteArray) (ks : List Tree), SizeOf.sizeOf (Tree.node i k s ks) ≤ sz → ∀ (xs : List UInt8) (kx : Nat), kx = xs.length → ∀ (r : List UInt8), xs ++ nodeBs (.node i k s ks) = r → ∀ (q : Nat), q = r.length → q ≤ 1000000000 →
    TC1 P 40 [.row 0 1 0 kx, .imm [.int .i64 i, .int .i64 k, .str s, .sl 4 (E.tree.l ks)]] [some (.arr 1 (B.l.l xs))] (.row 1 1 0 q) [none, some (.arr 1 (B.l.l r))] := by
  intro sz
  induction sz with
  | zero =>
    intro i k s ks hsz
    have : 0 < SizeOf.sizeOf (Tree.node i k s ks) := by simp only [Tree.node.sizeOf_spec]; omega
    omega
  | succ sz ih =>
  intro i k s ks hsz xs kx hkx r hr q hq hb
  have hek := E.tree.len ks
  have hlk : A.len (E.tree.l ks) = (ks.length : Int) := by rw [A.ok_len, hek]
  rw [nodeBs] at hr
  have hrl := app_len hr
  have htx : s.data.toList.length = s.size := by rw [Array.length_toList]; rfl
  simp only [List.length_append, numBs_len, htx] at hrl
  have hge := nodesBs_ge ks
  obtain ⟨x1, hx1⟩ : ∃ x1, xs ++ numBs i = x1 := ⟨_, rfl⟩
  obtain ⟨x2, hx2⟩ : ∃ x2, x1 ++ numBs k = x2 := ⟨_, rfl⟩
  obtain ⟨x3, hx3⟩ : ∃ x3, x2 ++ (numBs s.size ++ s.data.toList) = x3 := ⟨_, rfl⟩
  obtain ⟨x4, hx4⟩ : ∃ x4, x3 ++ numBs (A.len (E.tree.l ks)) = x4 := ⟨_, rfl⟩
  rw [← List.append_assoc, hx1, ← List.append_assoc, hx2, ← List.append_assoc, hx3, ← List.append_assoc] at hr
  have hx4' : x3 ++ numBs (ks.length : Int) = x4 := by rw [← hx4, A.ok_len, hek]
  rw [hx4'] at hr
  have hl1 := app_len hx1
  have hl2 := app_len hx2
  have hl3 := app_len hx3
  have hl4 := app_len hx4
  rw [numBs_len] at hl1 hl2 hl4
  rw [text_len] at hl3
  have hl5 := app_len hr
  obtain ⟨q1, hq1⟩ : ∃ q, q = x1.length := ⟨_, rfl⟩
  obtain ⟨q2, hq2⟩ : ∃ q, q = x2.length := ⟨_, rfl⟩
  obtain ⟨q3, hq3⟩ : ∃ q, q = x3.length := ⟨_, rfl⟩
  obtain ⟨q4, hq4⟩ : ∃ q, q = x4.length := ⟨_, rfl⟩
  have c1 := number37r A B hP xs kx hkx i x1 hx1 q1 hq1 (by omega)
  have c2 := number37r A B hP x1 q1 hq1 k x2 hx2 q2 hq2 (by omega)
  have c3 := text39r A B hP x2 q2 hq2 s x3 hx3 q3 hq3 (by omega)
  have c4 := number37r A B hP x3 q3 hq3 (A.len (E.tree.l ks)) x4 hx4 q4 hq4 (by omega)
  clear hx1 hx2 hx3 hx4 hx4'
  refine TC1.of A _ _ T0 (T0_ok hP) (hP ▸ Try.func40) rfl _ rfl (by simp) ?_
  cbv
  ((try cbv) <;> (repeat ((with_reducible refine EW.of ?_); cbv)))
  (refine TW.drawC (A := A) [] _ [(5, [none, some (.arr 1 (B.l.l x1))]), (10, [none, none, some (.arr 1 (B.l.l x2))]), (15, [none, none, none, some (.arr 1 (B.l.l x3))])] rfl (T0_ok hP) (hP ▸ follows_mixed) (by kernel_rfl) rfl (by kernel_rfl) (by cbv) (by first | kernel_rfl | cbv) rfl rfl rfl ?_; cbv)
  refine And.intro (Ent.of (hP ▸ Try.func37) rfl) ⟨.row 1 1 0 q1, [none, some (.arr 1 (B.l.l x1))], TC1.call [0] c1 ?_, ⟨rfl, ?_⟩⟩
  · skip
    cbv
    (repeat (first | exact trivial | refine And.intro (Emb.Pur _ _) ?_ | refine And.intro rfl ?_))
  cbv
  refine And.intro (Ent.of (hP ▸ Try.func37) rfl) ⟨.row 2 1 0 q2, [none, none, some (.arr 1 (B.l.l x2))], TC1.call [1] c2 ?_, ⟨rfl, ?_⟩⟩
  · skip
    cbv
    (repeat (first | exact trivial | refine And.intro (Emb.Pur _ _) ?_ | refine And.intro rfl ?_))
  cbv
  refine And.intro (Ent.of (hP ▸ Try.func39) rfl) ⟨.row 3 1 0 q3, [none, none, none, some (.arr 1 (B.l.l x3))], TC1.call [2] c3 ?_, ⟨rfl, ?_⟩⟩
  · skip
    cbv
    (repeat (first | exact trivial | refine And.intro (Emb.Pur _ _) ?_ | refine And.intro rfl ?_))
  cbv
  ((try cbv) <;> (repeat ((with_reducible refine EW.of ?_); cbv)))
  refine ⟨Ent.of (hP ▸ Try.func37) rfl, ?_⟩
  refine TC1.call [3] c4 ?_
  cbv
  (repeat (first | exact trivial | refine And.intro (Emb.Pur _ _) ?_ | refine And.intro rfl ?_))
  ((try cbv) <;> (repeat ((with_reducible refine EW.of ?_); cbv)))
  clear c1 c2 c3 c4
  obtain ⟨S, hS⟩ : ∃ S : LI (Nat × Nat × List UInt8), S = ⟨fun x => [(34, .int .i64 x.1), (33, .int .i64 (A.len (E.tree.l ks))), (4, .nils), (0, .row 1 1 0 x.2.1), (1, .imm [.int .i64 i, .int .i64 k, .str s, .sl 4 (E.tree.l ks)])], fun x => [none, some (.arr 1 (B.l.l x.2.2))], fun x => x.1 ≤ ks.length ∧ x.2.1 = x.2.2.length ∧ x.2.2 = x4 ++ nodesBs (ks.take x.1), fun x => ks.length - x.1⟩ := ⟨_, rfl⟩
  refine TW.loopM A (T0_ok hP) S _ rfl (0, q4, x4) ?_ ?_ ?_
  · rw [hS]; exact ⟨Nat.zero_le _, hq4, by rw [List.take_zero, nodesBs, List.append_nil]⟩
  · rw [hS]
    cbv
    (repeat (first | exact trivial | refine And.intro (Emb.Pur _ _) ?_ | refine And.intro rfl ?_))
  rintro ⟨j, m, l⟩ hj l1 L1 e1 e2
  rw [hS] at hj e1 e2
  dsimp only at hj e1 e2
  obtain ⟨hj, hm, hl⟩ := hj
  subst e1 e2
  cbv
  ((try cbv) <;> (repeat ((with_reducible refine EW.of ?_); cbv)))
  refine bsplit (fun h => ?_) (fun h => ?_)
  · have h : j < ks.length := lt_nt h rfl hlk
    obtain ⟨⟨i', k', s', ks'⟩, ht⟩ : ∃ t', ks[j]? = some t' := ⟨_, List.getElem?_eq_getElem h⟩
    have hmem := List.mem_of_getElem? ht
    have hsz' := Tree.kid_lt (i := i) (k := k) (s := s) hmem
    have hnx := nodesBs_take ht
    obtain ⟨l2, hl2⟩ : ∃ l2, l ++ nodeBs (.node i' k' s' ks') = l2 := ⟨_, rfl⟩
    have hl2' : l2 = x4 ++ nodesBs (ks.take (j + 1)) := by rw [hnx, ← List.append_assoc, ← hl, hl2]
    obtain ⟨q2', hq2'⟩ : ∃ q, q = l2.length := ⟨_, rfl⟩
    have hle := nodesBs_le ks (j + 1)
    have hlen2 : l2.length = x4.length + (nodesBs (ks.take (j + 1))).length := by rw [hl2', List.length_append]
    have hrec := ih i' k' s' ks' (by omega) l m hm l2 hl2 q2' hq2' (by omega)
    have hget := E.getn ht
    ((try cbv) <;> (repeat ((with_reducible refine EW.of ?_); cbv)))
    refine ⟨j, _, rfl, hget, ?_⟩
    cbv
    refine ⟨Ent.of (hP ▸ Try.func40) rfl, ?_⟩
    refine TC1.call [1] hrec ?_
    cbv
    (repeat (first | exact trivial | refine And.intro (Emb.Pur _ _) ?_ | refine And.intro rfl ?_))
    ((try cbv) <;> (repeat ((with_reducible refine EW.of ?_); cbv)))
    refine LM.of (j + 1, q2', l2) rfl ?_ ?_ ?_
    · rw [hS]; exact ⟨by show j + 1 ≤ ks.length; omega, hq2', hl2'⟩
    · rw [hS]; show ks.length - (j + 1) < ks.length - j; omega
    · rw [hS]
      cbv
      (repeat (first | exact trivial | refine And.intro (Emb.Pur _ _) ?_ | refine And.intro (inc_eq A (by omega)) ?_ | refine And.intro rfl ?_))
  · have h : ks.length ≤ j := lt_nf h rfl hlk
    obtain rfl : l = r := by rw [hl, List.take_of_length_le (by omega), hr]
    obtain rfl : m = q := by omega
    ((try cbv) <;> (repeat ((with_reducible refine EW.of ?_); cbv)))
    refine R1.of ?_
    cbv
    (repeat (first | exact trivial | refine And.intro (Emb.Pur _ _) ?_ | refine And.intro rfl ?_))
set_option maxHeartbeats 4000000 in
theorem node40n (A : Ar) (E : Em) (B : EmB) {P : Program} (hP : P = Try.prog) (i k : Int) (s : ByteArray) (ks : List Tree) (r : List UInt8) (hr : nodeBs (.node i k s ks) = r) (q : Nat) (hq : q = r.length) (hb : q ≤ 1000000000) :
    TC1 P 40 [.nils, .imm [.int .i64 i, .int .i64 k, .str s, .sl 4 (E.tree.l ks)]] [] (.row 0 1 0 q) [some (.arr 1 (B.l.l r))] := by
  have hek := E.tree.len ks
  have hlk : A.len (E.tree.l ks) = (ks.length : Int) := by rw [A.ok_len, hek]
  rw [nodeBs] at hr
  have hrl := congrArg List.length hr.symm
  have htx : s.data.toList.length = s.size := by rw [Array.length_toList]; rfl
  simp only [List.length_append, numBs_len, htx] at hrl
  have hge := nodesBs_ge ks
  obtain ⟨x1, hx1⟩ : ∃ x1, numBs i = x1 := ⟨_, rfl⟩
  obtain ⟨x2, hx2⟩ : ∃ x2, x1 ++ numBs k = x2 := ⟨_, rfl⟩
  obtain ⟨x3, hx3⟩ : ∃ x3, x2 ++ (numBs s.size ++ s.data.toList) = x3 := ⟨_, rfl⟩
  obtain ⟨x4, hx4⟩ : ∃ x4, x3 ++ numBs (A.len (E.tree.l ks)) = x4 := ⟨_, rfl⟩
  rw [hx1, ← List.append_assoc, hx2, ← List.append_assoc, hx3, ← List.append_assoc] at hr
  have hx4' : x3 ++ numBs (ks.length : Int) = x4 := by rw [← hx4, A.ok_len, hek]
  rw [hx4'] at hr
  have hl1 := congrArg List.length hx1
  have hl2 := app_len hx2
  have hl3 := app_len hx3
  have hl4 := app_len hx4
  rw [numBs_len] at hl1 hl2 hl4
  rw [text_len] at hl3
  have hl5 := app_len hr
  obtain ⟨q1, hq1⟩ : ∃ q, q = x1.length := ⟨_, rfl⟩
  obtain ⟨q2, hq2⟩ : ∃ q, q = x2.length := ⟨_, rfl⟩
  obtain ⟨q3, hq3⟩ : ∃ q, q = x3.length := ⟨_, rfl⟩
  obtain ⟨q4, hq4⟩ : ∃ q, q = x4.length := ⟨_, rfl⟩
  have c1 := number37n A B hP i x1 hx1
  have hq1' : q1 = 8 := by omega
  rw [← hq1'] at c1
  have c2 := number37r A B hP x1 q1 hq1 k x2 hx2 q2 hq2 (by omega)
  have c3 := text39r A B hP x2 q2 hq2 s x3 hx3 q3 hq3 (by omega)
  have c4 := number37r A B hP x3 q3 hq3 (A.len (E.tree.l ks)) x4 hx4 q4 hq4 (by omega)
  clear hx1 hx2 hx3 hx4 hx4'
  refine TC1.of A _ _ T0 (T0_ok hP) (hP ▸ Try.func40) rfl _ rfl (by simp) ?_
  cbv
  ((try cbv) <;> (repeat ((with_reducible refine EW.of ?_); cbv)))
  (refine TW.drawC (A := A) [] _ [(5, [some (.arr 1 (B.l.l x1))]), (10, [none, some (.arr 1 (B.l.l x2))]), (15, [none, none, some (.arr 1 (B.l.l x3))])] rfl (T0_ok hP) (hP ▸ follows_mixed) (by kernel_rfl) rfl (by kernel_rfl) (by cbv) (by first | kernel_rfl | cbv) rfl rfl rfl ?_; cbv)
  refine And.intro (Ent.of (hP ▸ Try.func37) rfl) ⟨.row 0 1 0 q1, [some (.arr 1 (B.l.l x1))], TC1.call [] c1 ?_, ⟨rfl, ?_⟩⟩
  · skip
    cbv
    (repeat (first | exact trivial | refine And.intro (Emb.Pur _ _) ?_ | refine And.intro rfl ?_))
  cbv
  refine And.intro (Ent.of (hP ▸ Try.func37) rfl) ⟨.row 1 1 0 q2, [none, some (.arr 1 (B.l.l x2))], TC1.call [0] c2 ?_, ⟨rfl, ?_⟩⟩
  · skip
    cbv
    (repeat (first | exact trivial | refine And.intro (Emb.Pur _ _) ?_ | refine And.intro rfl ?_))
  cbv
  refine And.intro (Ent.of (hP ▸ Try.func39) rfl) ⟨.row 2 1 0 q3, [none, none, some (.arr 1 (B.l.l x3))], TC1.call [1] c3 ?_, ⟨rfl, ?_⟩⟩
  · skip
    cbv
    (repeat (first | exact trivial | refine And.intro (Emb.Pur _ _) ?_ | refine And.intro rfl ?_))
  cbv
  ((try cbv) <;> (repeat ((with_reducible refine EW.of ?_); cbv)))
  refine ⟨Ent.of (hP ▸ Try.func37) rfl, ?_⟩
  refine TC1.call [2] c4 ?_
  cbv
  (repeat (first | exact trivial | refine And.intro (Emb.Pur _ _) ?_ | refine And.intro rfl ?_))
  ((try cbv) <;> (repeat ((with_reducible refine EW.of ?_); cbv)))
  clear c1 c2 c3 c4
  obtain ⟨S, hS⟩ : ∃ S : LI (Nat × Nat × List UInt8), S = ⟨fun x => [(34, .int .i64 x.1), (33, .int .i64 (A.len (E.tree.l ks))), (4, .nils), (0, .row 0 1 0 x.2.1), (1, .imm [.int .i64 i, .int .i64 k, .str s, .sl 4 (E.tree.l ks)])], fun x => [some (.arr 1 (B.l.l x.2.2))], fun x => x.1 ≤ ks.length ∧ x.2.1 = x.2.2.length ∧ x.2.2 = x4 ++ nodesBs (ks.take x.1), fun x => ks.length - x.1⟩ := ⟨_, rfl⟩
  refine TW.loopM A (T0_ok hP) S _ rfl (0, q4, x4) ?_ ?_ ?_
  · rw [hS]; exact ⟨Nat.zero_le _, hq4, by rw [List.take_zero, nodesBs, List.append_nil]⟩
  · rw [hS]
    cbv
    (repeat (first | exact trivial | refine And.intro (Emb.Pur _ _) ?_ | refine And.intro rfl ?_))
  rintro ⟨j, m, l⟩ hj l1 L1 e1 e2
  rw [hS] at hj e1 e2
  dsimp only at hj e1 e2
  obtain ⟨hj, hm, hl⟩ := hj
  subst e1 e2
  cbv
  ((try cbv) <;> (repeat ((with_reducible refine EW.of ?_); cbv)))
  refine bsplit (fun h => ?_) (fun h => ?_)
  · have h : j < ks.length := lt_nt h rfl hlk
    obtain ⟨⟨i', k', s', ks'⟩, ht⟩ : ∃ t', ks[j]? = some t' := ⟨_, List.getElem?_eq_getElem h⟩
    have hmem := List.mem_of_getElem? ht
    have hsz' := Tree.kid_lt (i := i) (k := k) (s := s) hmem
    have hnx := nodesBs_take ht
    obtain ⟨l2, hl2⟩ : ∃ l2, l ++ nodeBs (.node i' k' s' ks') = l2 := ⟨_, rfl⟩
    have hl2' : l2 = x4 ++ nodesBs (ks.take (j + 1)) := by rw [hnx, ← List.append_assoc, ← hl, hl2]
    obtain ⟨q2', hq2'⟩ : ∃ q, q = l2.length := ⟨_, rfl⟩
    have hle := nodesBs_le ks (j + 1)
    have hlen2 : l2.length = x4.length + (nodesBs (ks.take (j + 1))).length := by rw [hl2', List.length_append]
    have hrec := node40r A E B hP _ i' k' s' ks' (Nat.le_refl _) l m hm l2 hl2 q2' hq2' (by omega)
    have hget := E.getn ht
    ((try cbv) <;> (repeat ((with_reducible refine EW.of ?_); cbv)))
    refine ⟨j, _, rfl, hget, ?_⟩
    cbv
    refine ⟨Ent.of (hP ▸ Try.func40) rfl, ?_⟩
    refine TC1.call [0] hrec ?_
    cbv
    (repeat (first | exact trivial | refine And.intro (Emb.Pur _ _) ?_ | refine And.intro rfl ?_))
    ((try cbv) <;> (repeat ((with_reducible refine EW.of ?_); cbv)))
    refine LM.of (j + 1, q2', l2) rfl ?_ ?_ ?_
    · rw [hS]; exact ⟨by show j + 1 ≤ ks.length; omega, hq2', hl2'⟩
    · rw [hS]; show ks.length - (j + 1) < ks.length - j; omega
    · rw [hS]
      cbv
      (repeat (first | exact trivial | refine And.intro (Emb.Pur _ _) ?_ | refine And.intro (inc_eq A (by omega)) ?_ | refine And.intro rfl ?_))
  · have h : ks.length ≤ j := lt_nf h rfl hlk
    obtain rfl : l = r := by rw [hl, List.take_of_length_le (by omega), hr]
    obtain rfl : m = q := by omega
    ((try cbv) <;> (repeat ((with_reducible refine EW.of ?_); cbv)))
    refine R1.of ?_
    cbv
    (repeat (first | exact trivial | refine And.intro (Emb.Pur _ _) ?_ | refine And.intro rfl ?_))
end Go.Proofs.Ytmbbdabcbnemiaa
