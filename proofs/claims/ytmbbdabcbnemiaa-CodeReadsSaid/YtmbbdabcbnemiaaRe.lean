import Derived.Test.YtmbbdabcbnemiaaRd
/-! A text put; the document's example; no reader. -/
namespace Go.Proofs.Ytmbbdabcbnemiaa
open Go.Proofs.Ytmbbdabcbnemiaa.Tw
theorem EmB.bytes (B : EmB) (l : List UInt8) : B.l.l l = bytesAV l := by rw [B.l.ok, B.ok]; rfl
theorem text39n (A : Ar) (B : EmB) {P : Program} (hP : P = Try.prog) (s : ByteArray) (hs : s.size ≤ 1000000000) (r : List UInt8) (hr : numBs s.size ++ s.data.toList = r) (q : Nat) (hq : q = r.length) : TC1 P 39 [.nils, .str s] [] (.row 0 1 0 q) [some (.arr 1 (B.l.l r))] := by
  refine TC1.of A _ _ T0 (T0_ok hP) (hP ▸ Try.func39) rfl _ rfl (by simp) ?_
  have h37 := number37n A B hP (A.slen s) _ rfl
  have h8 := numBs_len (A.slen s)
  rw [A.ok_slen] at h8
  obtain ⟨r8, hr8⟩ : ∃ r8, r8 = numBs (A.slen s) := ⟨_, rfl⟩
  rw [← hr8] at h37
  rw [A.ok_slen] at hr8
  rw [← hr8] at hr h8
  have hl8 := B.l.len r8
  have hrl : r.length = 8 + s.size := by rw [← hr, List.length_append, h8, Array.length_toList]; rfl
  cbv
  ((try cbv) <;> (repeat ((with_reducible refine EW.of ?_); cbv)))
  refine ⟨Ent.of (hP ▸ Try.func37) rfl, ?_⟩
  refine TC1.call [] h37 ?_
  cbv
  (repeat (first | exact trivial | refine And.intro (Emb.Pur _ _) ?_ | refine And.intro rfl ?_))
  ((try cbv) <;> (repeat ((with_reducible refine EW.of ?_); cbv)))
  refine ⟨q, B.l.l r, by omega, by rw [List.take_of_length_le (by omega), ← hr, B.l.app, B.bytes s.data.toList], by omega, by omega, ?_⟩
  cbv
  ((try cbv) <;> (repeat ((with_reducible refine EW.of ?_); cbv)))
  refine R1.of ?_
  cbv
  (repeat (first | exact trivial | refine And.intro (Emb.Pur _ _) ?_ | refine And.intro rfl ?_))
theorem Text12n (A : Ar) (B : EmB) {P : Program} (hP : P = Try.prog) (s : ByteArray) (hs : s.size ≤ 1000000000) (r : List UInt8) (hr : numBs s.size ++ s.data.toList = r) : TPure P 12 [.nils, .str s] (.sl 1 (B.l.l r)) := by
  refine TPure.ofE A T0 (T0_ok hP) (hP ▸ Try.func12) rfl _ rfl (by simp) ?_
  obtain ⟨q, hq⟩ : ∃ q, q = r.length := ⟨_, rfl⟩
  have h39 := text39n A B hP s hs r hr q hq
  have h38 := own38n A hP
  cbv
  ((try cbv) <;> (repeat ((with_reducible refine EW.of ?_); cbv)))
  (refine ⟨Ent.of (hP ▸ Try.func38) rfl, ?_⟩; refine TC.pureE h38 ?_; cbv; (repeat (first | exact trivial | refine And.intro (Emb.Pur _ _) ?_ | refine And.intro rfl ?_ | refine And.intro (Pur.mk rfl) ?_ | refine And.intro (Pur.mk (by assumption)) ?_)); ((try cbv) <;> (repeat ((with_reducible refine EW.of ?_); cbv))))
  refine ⟨Ent.of (hP ▸ Try.func39) rfl, ?_⟩
  refine TC1.call [] h39 ?_
  cbv
  (repeat (first | exact trivial | refine And.intro (Emb.Pur _ _) ?_ | refine And.intro rfl ?_))
  ((try cbv) <;> (repeat ((with_reducible refine EW.of ?_); cbv)))
  exact And.intro (B.l.cut hq) (And.intro (B.l.Pur _) trivial)
/-! The reader's exported methods. -/
def askR {α : Type} (z : α) (bs : List UInt8) (a : Nat) (bad : Int) (r : RR α) : α × Nat × Int :=
  if 0 ≤ bad then (z, a, bad) else match r with
    | .ok v a2 => (v, a2, bad)
    | .no e a2 => (z, a2, e)
theorem Number20n (A : Ar) {P : Program} (hP : P = Try.prog) : TPure P 20 [.nil] (.int .i64 0) := by
  refine TPure.ofE A T0 (T0_ok hP) (hP ▸ Try.func20) rfl _ rfl (by simp) ?_
  have h := askI_nil A hP 43
  cbv
  ((try cbv) <;> (repeat ((with_reducible refine EW.of ?_); cbv)))
  (refine ⟨Ent.of (hP ▸ Try.func42) rfl, ?_⟩; refine TC.pureE h ?_; cbv; (repeat (first | exact trivial | refine And.intro (Emb.Pur _ _) ?_ | refine And.intro rfl ?_ | refine And.intro (Pur.mk rfl) ?_ | refine And.intro (Pur.mk (by assumption)) ?_)); ((try cbv) <;> (repeat ((with_reducible refine EW.of ?_); cbv))))
theorem Small22n (A : Ar) {P : Program} (hP : P = Try.prog) : TPure P 22 [.nil] (.int .i8 0) := by
  refine TPure.ofE A T0 (T0_ok hP) (hP ▸ Try.func22) rfl _ rfl (by simp) ?_
  have h := askS_nil A hP 46
  cbv
  ((try cbv) <;> (repeat ((with_reducible refine EW.of ?_); cbv)))
  (refine ⟨Ent.of (hP ▸ Try.func45) rfl, ?_⟩; refine TC.pureE h ?_; cbv; (repeat (first | exact trivial | refine And.intro (Emb.Pur _ _) ?_ | refine And.intro rfl ?_ | refine And.intro (Pur.mk rfl) ?_ | refine And.intro (Pur.mk (by assumption)) ?_)); ((try cbv) <;> (repeat ((with_reducible refine EW.of ?_); cbv))))
theorem Text24n (A : Ar) {P : Program} (hP : P = Try.prog) : TPure P 24 [.nil] (.str ⟨#[]⟩) := by
  refine TPure.ofE A T0 (T0_ok hP) (hP ▸ Try.func24) rfl _ rfl (by simp) ?_
  have h := askT_nil A hP 48
  cbv
  ((try cbv) <;> (repeat ((with_reducible refine EW.of ?_); cbv)))
  (refine ⟨Ent.of (hP ▸ Try.func47) rfl, ?_⟩; refine TC.pureE h ?_; cbv; (repeat (first | exact trivial | refine And.intro (Emb.Pur _ _) ?_ | refine And.intro rfl ?_ | refine And.intro (Pur.mk rfl) ?_ | refine And.intro (Pur.mk (by assumption)) ?_)); ((try cbv) <;> (repeat ((with_reducible refine EW.of ?_); cbv))))
set_option maxHeartbeats 1000000 in
theorem Number20 (A : Ar) (B : EmB) {P : Program} (hP : P = Try.prog) (bs : List UInt8) (hl : bs.length ≤ 1000000000) (a : Nat) (ha : a ≤ bs.length) (bad : Int) (v : Int) (a2 : Nat) (bad2 : Int) (h : askR 0 bs a bad (numR A bs a) = (v, a2, bad2)) :
    TC1 P 20 [.ref 0 3 0 0] [some (rdr B bs a bad)] (.int .i64 v) [some (rdr B bs a2 bad2)] := by
  have hg : TCX P 42 [.ref 0 3 0 0, .func (.func 43) [.ref 0 3 0 0] []] [some (rdr B bs a bad)] (.ret (.int .i64 v)) [some (rdr B bs a2 bad2)] := by
    have h43 := number43 A B hP bs hl a ha bad
    unfold askR at h
    by_cases h0 : 0 ≤ bad
    · rw [if_pos h0] at h
      cases h
      exact askI_bad A B hP bs a bad h0 _
    · rw [if_neg h0] at h
      generalize numR A bs a = r at h h43
      cases r with
      | ok v a2 => cases h; exact askI_number_ok A B hP bs a _ bad (by omega) _ h43
      | no e a2 => cases h; exact askI_number_no A B hP bs a _ bad _ (by omega) h43
  unfold rdr at *
  refine TC1.of A _ _ T0 (T0_ok hP) (hP ▸ Try.func20) rfl _ rfl (by simp) ?_
  cbv
  ((try cbv) <;> (repeat ((with_reducible refine EW.of ?_); cbv)))
  refine ⟨Ent.of (hP ▸ Try.func42) rfl, ?_⟩
  refine TCX.call [0] hg ?_
  cbv
  (repeat (first | exact trivial | refine And.intro (Emb.Pur _ _) ?_ | refine And.intro rfl ?_))
  ((try cbv) <;> (repeat ((with_reducible refine EW.of ?_); cbv)))
  refine R1.of ?_
  cbv
  (repeat (first | exact trivial | refine And.intro (Emb.Pur _ _) ?_ | refine And.intro rfl ?_))
end Go.Proofs.Ytmbbdabcbnemiaa
