import Derived.Test.YtmbbdabcbnemiaaRh
/-! What is exported; the reference's numbers and texts. -/
namespace Go.Proofs.Ytmbbdabcbnemiaa
open Go.Proofs.Ytmbbdabcbnemiaa.Tw
theorem Number10 (A : Ar) (B : EmB) {P : Program} (hP : P = Try.prog) (bs : List UInt8) (hl : bs.length ≤ 100000000) (n : Int) (r : List UInt8) (hr : bs ++ numBs n = r) : TPure P 10 [.sl 1 (B.l.l bs), .int .i64 n] (.sl 1 (B.l.l r)) := by
  have hrl := app_len hr
  rw [numBs_len] at hrl
  obtain ⟨q, hq⟩ : ∃ q, q = r.length := ⟨_, rfl⟩
  by_cases h0 : bs = []
  · subst h0
    rw [List.nil_append] at hr
    have h38 := own38n A hP
    have h37 := number37n A B hP n r hr
    rw [show (8 : Nat) = q by rw [hq, hrl]; rfl] at h37
    rw [B.l.nil]
    refine TPure.ofE A T0 (T0_ok hP) (hP ▸ Try.func10) rfl _ rfl (by simp) ?_
    cbv
    ((try cbv) <;> (repeat ((with_reducible refine EW.of ?_); cbv)))
    (refine ⟨Ent.of (hP ▸ Try.func38) rfl, ?_⟩; refine TC.pureE h38 ?_; cbv; (repeat (first | exact trivial | refine And.intro (Emb.Pur _ _) ?_ | refine And.intro rfl ?_ | refine And.intro (Pur.mk rfl) ?_ | refine And.intro (Pur.mk (by assumption)) ?_)); ((try cbv) <;> (repeat ((with_reducible refine EW.of ?_); cbv))))
    refine ⟨Ent.of (hP ▸ Try.func37) rfl, ?_⟩
    refine TC1.call [] h37 ?_
    cbv
    (repeat (first | exact trivial | refine And.intro (Emb.Pur _ _) ?_ | refine And.intro rfl ?_))
    ((try cbv) <;> (repeat ((with_reducible refine EW.of ?_); cbv)))
    exact And.intro (B.l.cut hq) (And.intro (B.l.Pur _) trivial)
  · obtain ⟨k, hk⟩ : ∃ k, k = bs.length := ⟨_, rfl⟩
    have h38 := own38 A B hP bs (by omega) h0 k hk
    have h37 := number37r A B hP bs k hk n r hr q hq (by omega)
    refine TPure.ofE A T0 (T0_ok hP) (hP ▸ Try.func10) rfl _ rfl (by simp) ?_
    cbv
    ((try cbv) <;> (repeat ((with_reducible refine EW.of ?_); cbv)))
    refine ⟨Ent.of (hP ▸ Try.func38) rfl, ?_⟩
    refine TC1.call [] h38 ?_
    cbv
    (repeat (first | exact trivial | refine And.intro (Emb.Pur _ _) ?_ | refine And.intro rfl ?_))
    ((try cbv) <;> (repeat ((with_reducible refine EW.of ?_); cbv)))
    refine ⟨Ent.of (hP ▸ Try.func37) rfl, ?_⟩
    refine TC1.call [0] h37 ?_
    cbv
    (repeat (first | exact trivial | refine And.intro (Emb.Pur _ _) ?_ | refine And.intro rfl ?_))
    ((try cbv) <;> (repeat ((with_reducible refine EW.of ?_); cbv)))
    exact And.intro (B.l.cut hq) (And.intro (B.l.Pur _) trivial)
theorem Text12 (A : Ar) (B : EmB) {P : Program} (hP : P = Try.prog) (bs : List UInt8) (hl : bs.length ≤ 100000000) (s : ByteArray) (hs : s.size ≤ 100000000) (r : List UInt8) (hr : bs ++ (numBs s.size ++ s.data.toList) = r) : TPure P 12 [.sl 1 (B.l.l bs), .str s] (.sl 1 (B.l.l r)) := by
  have hrl := app_len hr
  rw [text_len] at hrl
  obtain ⟨q, hq⟩ : ∃ q, q = r.length := ⟨_, rfl⟩
  by_cases h0 : bs = []
  · subst h0
    rw [List.nil_append] at hr
    have h38 := own38n A hP
    have h39 := text39n A B hP s (by omega) r hr q hq
    rw [B.l.nil]
    refine TPure.ofE A T0 (T0_ok hP) (hP ▸ Try.func12) rfl _ rfl (by simp) ?_
    cbv
    ((try cbv) <;> (repeat ((with_reducible refine EW.of ?_); cbv)))
    (refine ⟨Ent.of (hP ▸ Try.func38) rfl, ?_⟩; refine TC.pureE h38 ?_; cbv; (repeat (first | exact trivial | refine And.intro (Emb.Pur _ _) ?_ | refine And.intro rfl ?_ | refine And.intro (Pur.mk rfl) ?_ | refine And.intro (Pur.mk (by assumption)) ?_)); ((try cbv) <;> (repeat ((with_reducible refine EW.of ?_); cbv))))
    refine ⟨Ent.of (hP ▸ Try.func39) rfl, ?_⟩
    refine TC1.call [] h39 ?_
    cbv
    (repeat (first | exact trivial | refine And.intro (Emb.Pur _ _) ?_ | refine And.intro rfl ?_))
    ((try cbv) <;> (repeat ((with_reducible refine EW.of ?_); cbv)))
    exact And.intro (B.l.cut hq) (And.intro (B.l.Pur _) trivial)
  · obtain ⟨k, hk⟩ : ∃ k, k = bs.length := ⟨_, rfl⟩
    have h38 := own38 A B hP bs (by omega) h0 k hk
    have h39 := text39r A B hP bs k hk s r hr q hq (by omega)
    refine TPure.ofE A T0 (T0_ok hP) (hP ▸ Try.func12) rfl _ rfl (by simp) ?_
    cbv
    ((try cbv) <;> (repeat ((with_reducible refine EW.of ?_); cbv)))
    refine ⟨Ent.of (hP ▸ Try.func38) rfl, ?_⟩
    refine TC1.call [] h38 ?_
    cbv
    (repeat (first | exact trivial | refine And.intro (Emb.Pur _ _) ?_ | refine And.intro rfl ?_))
    ((try cbv) <;> (repeat ((with_reducible refine EW.of ?_); cbv)))
    refine ⟨Ent.of (hP ▸ Try.func39) rfl, ?_⟩
    refine TC1.call [0] h39 ?_
    cbv
    (repeat (first | exact trivial | refine And.intro (Emb.Pur _ _) ?_ | refine And.intro rfl ?_))
    ((try cbv) <;> (repeat ((with_reducible refine EW.of ?_); cbv)))
    exact And.intro (B.l.cut hq) (And.intro (B.l.Pur _) trivial)
theorem Node14 (A : Ar) (E : Em) (B : EmB) {P : Program} (hP : P = Try.prog) (bs : List UInt8) (hl : bs.length ≤ 100000000) (t : Tree) (r : List UInt8) (hr : bs ++ nodeBs t = r) (hrl : r.length ≤ 1000000000) : TPure P 14 [.sl 1 (B.l.l bs), E.tree.v t] (.sl 1 (B.l.l r)) := by
  obtain ⟨i, k, s, ks⟩ := t
  rw [E.node]
  obtain ⟨q, hq⟩ : ∃ q, q = r.length := ⟨_, rfl⟩
  by_cases h0 : bs = []
  · subst h0
    rw [List.nil_append] at hr
    have h38 := own38n A hP
    have h40 := node40n A E B hP i k s ks r hr q hq (by omega)
    rw [B.l.nil]
    refine TPure.ofE A T0 (T0_ok hP) (hP ▸ Try.func14) rfl _ rfl (by simp) ?_
    cbv
    refine EW.vs [(4, .nils), (3, .imm [.int .i64 i, .int .i64 k, .str s, .sl 4 (E.tree.l ks)]), (0, .sl 1 [])] [] 8 rfl ?_
    cbv
    (repeat (first | exact trivial | refine And.intro (Emb.Pur _ _) ?_ | refine And.intro rfl ?_ | refine And.intro (Pur.mk (by (repeat (first | exact rfl | exact Emb.purL _ _ | assumption | apply pur_cons | apply pur_sl | apply pur_slt | apply pur_agg | apply pur_tup)))) ?_))
    ((try cbv) <;> (repeat ((with_reducible refine EW.of ?_); cbv)))
    (refine ⟨Ent.of (hP ▸ Try.func38) rfl, ?_⟩; refine TC.pureE h38 ?_; cbv; (repeat (first | exact trivial | refine And.intro (Emb.Pur _ _) ?_ | refine And.intro rfl ?_ | refine And.intro (Pur.mk rfl) ?_ | refine And.intro (Pur.mk (by assumption)) ?_)); ((try cbv) <;> (repeat ((with_reducible refine EW.of ?_); cbv))))
    refine ⟨Ent.of (hP ▸ Try.func40) rfl, ?_⟩
    refine TC1.call [] h40 ?_
    cbv
    (repeat (first | exact trivial | refine And.intro (Emb.Pur _ _) ?_ | refine And.intro rfl ?_))
    ((try cbv) <;> (repeat ((with_reducible refine EW.of ?_); cbv)))
    exact And.intro (B.l.cut hq) (And.intro (B.l.Pur _) trivial)
  · obtain ⟨kx, hk⟩ : ∃ k, k = bs.length := ⟨_, rfl⟩
    have h38 := own38 A B hP bs (by omega) h0 kx hk
    have h40 := node40r A E B hP _ i k s ks (Nat.le_refl _) bs kx hk r hr q hq (by omega)
    refine TPure.ofE A T0 (T0_ok hP) (hP ▸ Try.func14) rfl _ rfl (by simp) ?_
    cbv
    refine EW.vs [(4, .nils), (3, .imm [.int .i64 i, .int .i64 k, .str s, .sl 4 (E.tree.l ks)]), (0, .sl 1 (B.l.l bs))] [] 8 rfl ?_
    cbv
    (repeat (first | exact trivial | refine And.intro (Emb.Pur _ _) ?_ | refine And.intro rfl ?_ | refine And.intro (Pur.mk (by (repeat (first | exact rfl | exact Emb.purL _ _ | assumption | apply pur_cons | apply pur_sl | apply pur_slt | apply pur_agg | apply pur_tup)))) ?_))
    ((try cbv) <;> (repeat ((with_reducible refine EW.of ?_); cbv)))
    refine ⟨Ent.of (hP ▸ Try.func38) rfl, ?_⟩
    refine TC1.call [] h38 ?_
    cbv
    (repeat (first | exact trivial | refine And.intro (Emb.Pur _ _) ?_ | refine And.intro rfl ?_))
    ((try cbv) <;> (repeat ((with_reducible refine EW.of ?_); cbv)))
    refine ⟨Ent.of (hP ▸ Try.func40) rfl, ?_⟩
    refine TC1.call [0] h40 ?_
    cbv
    (repeat (first | exact trivial | refine And.intro (Emb.Pur _ _) ?_ | refine And.intro rfl ?_))
    ((try cbv) <;> (repeat ((with_reducible refine EW.of ?_); cbv)))
    exact And.intro (B.l.cut hq) (And.intro (B.l.Pur _) trivial)
end Go.Proofs.Ytmbbdabcbnemiaa
