import Derived.Test.YtmbbdabcbnemiaaRj
/-! Steps behind bytes. -/
namespace Go.Proofs.Ytmbbdabcbnemiaa
open Go.Proofs.Ytmbbdabcbnemiaa.Tw
structure Stp where
  op : Int
  id : Int
  par : Int
  pl : Int
  text : ByteArray
  sub : Tree
def Stp.av : Stp → AV
  | ⟨op, id, par, pl, text, .node i k s ks⟩ => .agg [.int .i8 op, .int .i64 id, .int .i64 par, .int .i64 pl, .str text, .int .i64 i, .int .i64 k, .str s, .sl 4 (avs ks)]
theorem Stp.av_pur : ∀ x : Stp, x.av.pur = true
  | ⟨op, id, par, pl, text, .node i k s ks⟩ => by simp only [Stp.av, AV.pur, Tw.purL, Bool.true_and, Bool.and_true]; exact avs_pur ks
/-- Steps, not reckoned out. -/
structure EmS where
  l : Emb Stp
  ok : l.v = Stp.av
def emS0 : EmS := ⟨⟨Stp.av, _, fun _ => rfl, Stp.av_pur⟩, rfl⟩
theorem EmS.v (F : EmS) (E : Em) (op id par pl : Int) (text : ByteArray) (i k : Int) (s : ByteArray) (ks : List Tree) : F.l.v ⟨op, id, par, pl, text, .node i k s ks⟩ = .agg [.int .i8 op, .int .i64 id, .int .i64 par, .int .i64 pl, .str text, .int .i64 i, .int .i64 k, .str s, .sl 4 (E.tree.l ks)] := by
  rw [F.ok, Stp.av, E.trees]
theorem EmS.get (F : EmS) (E : Em) {l : List Stp} {j : Nat} {op id par pl : Int} {text : ByteArray} {i k : Int} {s : ByteArray} {ks : List Tree} (h : l[j]? = some ⟨op, id, par, pl, text, .node i k s ks⟩) : (F.l.l l)[j]? = some (.agg [.int .i8 op, .int .i64 id, .int .i64 par, .int .i64 pl, .str text, .int .i64 i, .int .i64 k, .str s, .sl 4 (E.tree.l ks)]) := by rw [F.l.get h, F.v E]
/-- A step's bytes. -/
def opB (op : Int) : UInt8 := UInt8.ofNat (IntKind.u8.wrap op).toNat
def stepBs (x : Stp) : List UInt8 := [opB x.op] ++ (numBs x.id ++ (numBs x.par ++ (numBs x.pl ++ ((numBs x.text.size ++ x.text.data.toList) ++ nodeBs x.sub))))
def stepsBs : List Stp → List UInt8
  | [] => []
  | x :: l => stepBs x ++ stepsBs l
theorem stepsBs_app : ∀ a b : List Stp, stepsBs (a ++ b) = stepsBs a ++ stepsBs b
  | [], b => rfl
  | t :: a, b => by simp only [List.cons_append, stepsBs, stepsBs_app a b, List.append_assoc]
theorem stepsBs_take {ks : List Stp} {j : Nat} {t : Stp} (h : ks[j]? = some t) : stepsBs (ks.take (j + 1)) = stepsBs (ks.take j) ++ stepBs t := by
  rw [List.take_add_one, h, stepsBs_app]
  show _ ++ (stepBs t ++ []) = _
  rw [List.append_nil]
theorem stepsBs_le (ks : List Stp) (j : Nat) : (stepsBs (ks.take j)).length ≤ (stepsBs ks).length := by
  conv => rhs; rw [← List.take_append_drop j ks, stepsBs_app, List.length_append]
  omega
theorem stepsBs_ge : ∀ ks : List Stp, ks.length ≤ (stepsBs ks).length
  | [] => Nat.le_refl _
  | x :: ts => by
    have := stepsBs_ge ts
    rw [stepsBs, stepBs]
    simp only [List.length_append, List.length_cons, List.length_nil]
    omega
theorem opB_op (A : Ar) (B : EmB) (op : Int) : AV.int .u8 (A.wrap .u8 op) = B.l.v (opB op) := by
  rw [B.ok, A.ok_wrap]
  show _ = AV.int .u8 ((UInt8.ofNat (IntKind.u8.wrap op).toNat).toNat : Int)
  rw [byte_ofInt (wrap_u8 _)]
set_option maxHeartbeats 4000000 in
theorem Step41 (A : Ar) (E : Em) (B : EmB) (F : EmS) {P : Program} (hP : P = Try.prog) (x : Stp) (xs r : List UInt8) (hr : xs ++ stepBs x = r) (hb : r.length ≤ 100000000) :
    TPure P 41 [.sl 1 (B.l.l xs), F.l.v x] (.sl 1 (B.l.l r)) := by
  obtain ⟨op, id, par, pl, text, i, k, s, ks⟩ := x
  rw [F.v E]
  have hrl := app_len hr
  have htx : text.data.toList.length = text.size := by rw [Array.length_toList]; rfl
  simp only [stepBs, List.length_append, numBs_len, htx] at hrl
  rw [stepBs] at hr
  obtain ⟨x0, hx0⟩ : ∃ x0, xs ++ [opB op] = x0 := ⟨_, rfl⟩
  obtain ⟨x1, hx1⟩ : ∃ x1, x0 ++ numBs id = x1 := ⟨_, rfl⟩
  obtain ⟨x2, hx2⟩ : ∃ x2, x1 ++ numBs par = x2 := ⟨_, rfl⟩
  obtain ⟨x3, hx3⟩ : ∃ x3, x2 ++ numBs pl = x3 := ⟨_, rfl⟩
  obtain ⟨x4, hx4⟩ : ∃ x4, x3 ++ (numBs text.size ++ text.data.toList) = x4 := ⟨_, rfl⟩
  rw [← List.append_assoc, hx0, ← List.append_assoc, hx1, ← List.append_assoc, hx2, ← List.append_assoc, hx3, ← List.append_assoc, hx4] at hr
  have hl0 := app_len hx0
  have hl1 := app_len hx1
  have hl2 := app_len hx2
  have hl3 := app_len hx3
  have hl4 := app_len hx4
  have hl5 := app_len hr
  rw [numBs_len] at hl1 hl2 hl3
  rw [text_len] at hl4
  rw [show [opB op].length = 1 from rfl] at hl0
  obtain ⟨q0, hq0⟩ : ∃ q, q = x0.length := ⟨_, rfl⟩
  have c1 := Number11 A B hP x0 (by omega) id x1 hx1
  have c2 := Number11 A B hP x1 (by omega) par x2 hx2
  have c3 := Number11 A B hP x2 (by omega) pl x3 hx3
  have c4 := Text13 A B hP x3 (by omega) text (by omega) x4 hx4
  have c5 := Node15 A E B hP _ (.node i k s ks) (Nat.le_refl _) x4 r hr hb
  rw [E.node] at c5
  have hes := opB_op A B op
  have hx0' : B.l.l x0 = B.l.l xs ++ [.int .u8 (A.wrap .u8 op)] := by rw [← hx0, B.l.app, B.l.cons, B.l.nil, hes]
  have hll := B.l.len xs
  refine TPure.ofE A T0 (T0_ok hP) (hP ▸ Try.func41) rfl _ rfl (by simp) ?_
  by_cases h0 : xs = []
  · subst h0
    rw [B.l.nil] at hx0' ⊢
    cbv
    ((try cbv) <;> (repeat ((with_reducible refine EW.of ?_); cbv)))
    refine ⟨⟨rfl⟩, q0, B.l.l x0, by rw [hq0, ← hx0]; rfl, by rw [hx0']; rfl, Nat.zero_le _, by show q0 * 1 ≤ _; omega, by omega, ?_⟩
    cbv
    refine EW.vs [(5, .sl 1 (B.l.l x0)), (4, .nils), (3, .imm [.int .i8 op, .int .i64 id, .int .i64 par, .int .i64 pl, .str text, .int .i64 i, .int .i64 k, .str s, .sl 4 (E.tree.l ks)])] [] 35 rfl ?_
    cbv
    (repeat (first | exact trivial | refine And.intro (Emb.Pur _ _) ?_ | refine And.intro (B.l.cut hq0) ?_ | refine And.intro rfl ?_ | refine And.intro (Pur.mk (by (repeat (first | exact rfl | exact Emb.purL _ _ | assumption | apply pur_cons | apply pur_sl | apply pur_slt | apply pur_agg | apply pur_tup)))) ?_))
    ((try cbv) <;> (repeat ((with_reducible refine EW.of ?_); cbv)))
    (refine ⟨Ent.of (hP ▸ Try.func11) rfl, ?_⟩; refine TC.pureE c1 ?_; cbv; (repeat (first | exact trivial | refine And.intro (Emb.Pur _ _) ?_ | refine And.intro rfl ?_ | refine And.intro (Pur.mk rfl) ?_ | refine And.intro (Pur.mk (by assumption)) ?_)); ((try cbv) <;> (repeat ((with_reducible refine EW.of ?_); cbv))))
    (refine ⟨Ent.of (hP ▸ Try.func11) rfl, ?_⟩; refine TC.pureE c2 ?_; cbv; (repeat (first | exact trivial | refine And.intro (Emb.Pur _ _) ?_ | refine And.intro rfl ?_ | refine And.intro (Pur.mk rfl) ?_ | refine And.intro (Pur.mk (by assumption)) ?_)); ((try cbv) <;> (repeat ((with_reducible refine EW.of ?_); cbv))))
    (refine ⟨Ent.of (hP ▸ Try.func11) rfl, ?_⟩; refine TC.pureE c3 ?_; cbv; (repeat (first | exact trivial | refine And.intro (Emb.Pur _ _) ?_ | refine And.intro rfl ?_ | refine And.intro (Pur.mk rfl) ?_ | refine And.intro (Pur.mk (by assumption)) ?_)); ((try cbv) <;> (repeat ((with_reducible refine EW.of ?_); cbv))))
    (refine ⟨Ent.of (hP ▸ Try.func13) rfl, ?_⟩; refine TC.pureE c4 ?_; cbv; (repeat (first | exact trivial | refine And.intro (Emb.Pur _ _) ?_ | refine And.intro rfl ?_ | refine And.intro (Pur.mk rfl) ?_ | refine And.intro (Pur.mk (by assumption)) ?_)); ((try cbv) <;> (repeat ((with_reducible refine EW.of ?_); cbv))))
    (refine ⟨Ent.of (hP ▸ Try.func15) rfl, ?_⟩; refine TC.pureE c5 ?_; cbv; (repeat (first | exact trivial | refine And.intro (Emb.Pur _ _) ?_ | refine And.intro rfl ?_ | refine And.intro (Pur.mk rfl) ?_ | refine And.intro (Pur.mk (by assumption)) ?_)); ((try cbv) <;> (repeat ((with_reducible refine EW.of ?_); cbv))))
    exact And.intro (B.l.Pur _) trivial
  · have hsc := B.scal xs
    have hne : B.l.l xs ≠ [] := fun e => h0 (List.eq_nil_of_length_eq_zero (by rw [← hll, e]; rfl))
    obtain ⟨k0, hk0⟩ : ∃ k, k = xs.length := ⟨_, rfl⟩
    cbv
    ((try cbv) <;> (repeat ((with_reducible refine EW.of ?_); cbv)))
    refine msplit (fun he => absurd he hne) (fun a al he => ?_)
    have he2 : a :: al = B.l.l xs := he.symm
    refine ⟨⟨by rw [he2]; exact hsc.h⟩, k0, B.l.l xs, by rw [he2, hll, Nat.zero_add, hk0], by rw [he2]; rfl, Nat.zero_le _, by show k0 * 1 ≤ _; omega, by omega, ?_⟩
    cbv
    ((try cbv) <;> (repeat ((with_reducible refine EW.of ?_); cbv)))
    refine ⟨⟨rfl⟩, q0, B.l.l x0, by rw [hq0, ← hx0, List.length_append, hk0]; rfl, by rw [hx0', List.take_of_length_le (show (B.l.l xs).length ≤ k0 by omega)], (show k0 ≤ (B.l.l xs).length by omega), by show q0 * 1 ≤ _; omega, by omega, ?_⟩
    cbv
    refine EW.vs [(5, .sl 1 (B.l.l x0)), (4, .nils), (3, .imm [.int .i8 op, .int .i64 id, .int .i64 par, .int .i64 pl, .str text, .int .i64 i, .int .i64 k, .str s, .sl 4 (E.tree.l ks)])] [] 35 rfl ?_
    cbv
    (repeat (first | exact trivial | refine And.intro (Emb.Pur _ _) ?_ | refine And.intro (B.l.cut hq0) ?_ | refine And.intro rfl ?_ | refine And.intro (Pur.mk (by (repeat (first | exact rfl | exact Emb.purL _ _ | assumption | apply pur_cons | apply pur_sl | apply pur_slt | apply pur_agg | apply pur_tup)))) ?_))
    ((try cbv) <;> (repeat ((with_reducible refine EW.of ?_); cbv)))
    (refine ⟨Ent.of (hP ▸ Try.func11) rfl, ?_⟩; refine TC.pureE c1 ?_; cbv; (repeat (first | exact trivial | refine And.intro (Emb.Pur _ _) ?_ | refine And.intro rfl ?_ | refine And.intro (Pur.mk rfl) ?_ | refine And.intro (Pur.mk (by assumption)) ?_)); ((try cbv) <;> (repeat ((with_reducible refine EW.of ?_); cbv))))
    (refine ⟨Ent.of (hP ▸ Try.func11) rfl, ?_⟩; refine TC.pureE c2 ?_; cbv; (repeat (first | exact trivial | refine And.intro (Emb.Pur _ _) ?_ | refine And.intro rfl ?_ | refine And.intro (Pur.mk rfl) ?_ | refine And.intro (Pur.mk (by assumption)) ?_)); ((try cbv) <;> (repeat ((with_reducible refine EW.of ?_); cbv))))
    (refine ⟨Ent.of (hP ▸ Try.func11) rfl, ?_⟩; refine TC.pureE c3 ?_; cbv; (repeat (first | exact trivial | refine And.intro (Emb.Pur _ _) ?_ | refine And.intro rfl ?_ | refine And.intro (Pur.mk rfl) ?_ | refine And.intro (Pur.mk (by assumption)) ?_)); ((try cbv) <;> (repeat ((with_reducible refine EW.of ?_); cbv))))
    (refine ⟨Ent.of (hP ▸ Try.func13) rfl, ?_⟩; refine TC.pureE c4 ?_; cbv; (repeat (first | exact trivial | refine And.intro (Emb.Pur _ _) ?_ | refine And.intro rfl ?_ | refine And.intro (Pur.mk rfl) ?_ | refine And.intro (Pur.mk (by assumption)) ?_)); ((try cbv) <;> (repeat ((with_reducible refine EW.of ?_); cbv))))
    (refine ⟨Ent.of (hP ▸ Try.func15) rfl, ?_⟩; refine TC.pureE c5 ?_; cbv; (repeat (first | exact trivial | refine And.intro (Emb.Pur _ _) ?_ | refine And.intro rfl ?_ | refine And.intro (Pur.mk rfl) ?_ | refine And.intro (Pur.mk (by assumption)) ?_)); ((try cbv) <;> (repeat ((with_reducible refine EW.of ?_); cbv))))
    exact And.intro (B.l.Pur _) trivial
end Go.Proofs.Ytmbbdabcbnemiaa
