import Derived.Test.YtmbbdabcbnemiaaRe
/-! No reader; the document's example. -/
namespace Go.Proofs.Ytmbbdabcbnemiaa
open Go.Proofs.Ytmbbdabcbnemiaa.Tw
def nodeZ : AV := .agg [.int .i64 0, .int .i64 0, .str ⟨#[]⟩, .nils]
theorem askN_nil (A : Ar) {P : Program} (hP : P = Try.prog) (g : FuncId) : TPure P 49 [.nil, .func (.func g) [.nil] []] nodeZ := by
  have h : TCX P 49 [.nil, .func (.func g) [.nil] []] [] (.ret nodeZ) [] := by
    unfold nodeZ
    refine TCX.ofD A _ _ T0 (T0_ok hP) (hP ▸ Try.func49) rfl _ rfl (by simp) ?_
    refine EWD.seq ?_
    cbv
    refine EWD.seq ?_
    cbv
    ((try cbv) <;> (repeat ((with_reducible refine EW.of ?_); cbv)))
    refine R1.of ?_
    cbv
    (repeat (first | exact trivial | refine And.intro (Emb.Pur _ _) ?_ | refine And.intro rfl ?_ | refine And.intro (Pur.mk rfl) ?_ | refine And.intro (Pur.mk (by assumption)) ?_))
  exact TPure.of h
theorem Node26n (A : Ar) {P : Program} (hP : P = Try.prog) : TPure P 26 [.nil] nodeZ := by
  unfold nodeZ
  refine TPure.ofE A T0 (T0_ok hP) (hP ▸ Try.func26) rfl _ rfl (by simp) ?_
  have h := askN_nil A hP 50
  unfold nodeZ at h
  cbv
  ((try cbv) <;> (repeat ((with_reducible refine EW.of ?_); cbv)))
  (refine ⟨Ent.of (hP ▸ Try.func49) rfl, ?_⟩; refine TC.pureE h ?_; cbv; (repeat (first | exact trivial | refine And.intro (Emb.Pur _ _) ?_ | refine And.intro rfl ?_ | refine And.intro (Pur.mk rfl) ?_ | refine And.intro (Pur.mk (by assumption)) ?_)); ((try cbv) <;> (repeat ((with_reducible refine EW.of ?_); cbv))))
theorem askL_nil (A : Ar) {P : Program} (hP : P = Try.prog) (g : FuncId) : TCX P 52 [.nil, .func (.func g) [] [.ref 0 1 0 0]] [some (.box 1 .nil)] (.ret .nils) [some (.box 1 .nil)] := by
  refine TCX.ofD A _ _ T0 (T0_ok hP) (hP ▸ Try.func52) rfl _ rfl (by simp) ?_
  refine EWD.seq ?_
  cbv
  refine EWD.seq ?_
  cbv
  ((try cbv) <;> (repeat ((with_reducible refine EW.of ?_); cbv)))
  refine R1.of ?_
  cbv
  (repeat (first | exact trivial | refine And.intro (Emb.Pur _ _) ?_ | refine And.intro rfl ?_ | refine And.intro (Pur.mk rfl) ?_ | refine And.intro (Pur.mk (by assumption)) ?_))
theorem Steps29n (A : Ar) {P : Program} (hP : P = Try.prog) : TPure P 29 [.nil] .nils := by
  refine TPure.ofE A T0 (T0_ok hP) (hP ▸ Try.func29) rfl _ rfl (by simp) ?_
  have h := askL_nil A hP 53
  cbv
  ((try cbv) <;> (repeat ((with_reducible refine EW.of ?_); cbv)))
  refine ⟨Ent.of (hP ▸ Try.func52) rfl, ?_⟩
  refine TCX.call [0] h ?_
  cbv
  (repeat (first | exact trivial | refine And.intro (Emb.Pur _ _) ?_ | refine And.intro rfl ?_ | refine And.intro (Pur.mk rfl) ?_ | refine And.intro (Pur.mk (by assumption)) ?_))
  ((try cbv) <;> (repeat ((with_reducible refine EW.of ?_); cbv)))
theorem askC_nil (A : Ar) {P : Program} (hP : P = Try.prog) (g : FuncId) (x y : Int) : TCX P 42 [.nil, .func (.func g) [] [.ref 0 1 0 0, .ref 1 1 0 0, .ref 2 1 0 0]] [some (.box 1 .nil), some (.box 1 (.int .i64 x)), some (.box 1 (.int .i64 y))] (.ret (.int .i64 0)) [some (.box 1 .nil), some (.box 1 (.int .i64 x)), some (.box 1 (.int .i64 y))] := by
  refine TCX.ofD A _ _ T0 (T0_ok hP) (hP ▸ Try.func42) rfl _ rfl (by simp) ?_
  refine EWD.seq ?_
  cbv
  refine EWD.seq ?_
  cbv
  ((try cbv) <;> (repeat ((with_reducible refine EW.of ?_); cbv)))
  refine R1.of ?_
  cbv
  (repeat (first | exact trivial | refine And.intro (Emb.Pur _ _) ?_ | refine And.intro rfl ?_ | refine And.intro (Pur.mk rfl) ?_ | refine And.intro (Pur.mk (by assumption)) ?_))
theorem Count32n (A : Ar) {P : Program} (hP : P = Try.prog) (x y : Int) : TPure P 32 [.nil, .int .i64 x, .int .i64 y] (.int .i64 0) := by
  refine TPure.ofE A T0 (T0_ok hP) (hP ▸ Try.func32) rfl _ rfl (by simp) ?_
  have h := askC_nil A hP 59 x y
  cbv
  ((try cbv) <;> (repeat ((with_reducible refine EW.of ?_); cbv)))
  refine ⟨Ent.of (hP ▸ Try.func42) rfl, ?_⟩
  refine TCX.call [0, 1, 2] h ?_
  cbv
  (repeat (first | exact trivial | refine And.intro (Emb.Pur _ _) ?_ | refine And.intro rfl ?_ | refine And.intro (Pur.mk rfl) ?_ | refine And.intro (Pur.mk (by assumption)) ?_))
  ((try cbv) <;> (repeat ((with_reducible refine EW.of ?_); cbv)))
theorem seq_self (A : Ar) (s : ByteArray) : A.seq s s = true := by rw [A.ok_seq]; simp [strEq]
theorem step0 (A : Ar) : stepN A 0 0 = 0 := by
  unfold stepN
  rw [A.ok_or, A.ok_shl, A.ok_wrap]
  rfl
theorem fold0 (A : Ar) : ∀ n : Nat, foldN A 0 (List.replicate n 0) = 0
  | 0 => rfl
  | n + 1 => by
    rw [List.replicate_succ]
    show foldN A (stepN A 0 0) (List.replicate n 0) = 0
    rw [step0]
    exact fold0 A n
set_option maxHeartbeats 1000000 in
theorem wakes9 (A : Ar) (B : EmB) {P : Program} (hP : P = Try.prog) : TPure P 9 [] (.bool true) := by
  refine TPure.ofE A T0 (T0_ok hP) (hP ▸ Try.func9) rfl _ rfl (by simp) ?_
  obtain ⟨b7, hb7⟩ : ∃ l, l = List.replicate 7 (0 : UInt8) := ⟨_, rfl⟩
  obtain ⟨b9, hb9⟩ : ∃ l, l = List.replicate 9 (0 : UInt8) := ⟨_, rfl⟩
  have hl7 : b7.length = 7 := by rw [hb7]; rfl
  have hl9 : b9.length = 9 := by rw [hb9]; rfl
  have hv7 : B.l.l b7 = List.replicate 7 (.int .u8 0) := by rw [hb7, B.bytes]; rfl
  have hv9 : B.l.l b9 = List.replicate 9 (.int .u8 0) := by rw [hb9, B.bytes]; rfl
  have h18a := New18 A B hP b7 (by omega)
  have h18b := New18 A B hP b9 (by omega)
  have h20a := Number20 A B hP b7 (by omega) 0 (by omega) (-1) 0 0 7 (by unfold askR numR takeR; rw [if_neg (by decide), if_neg (by omega), hl7]; rfl)
  have h20b := Number20 A B hP b9 (by omega) 0 (by omega) (-1) 0 8 (-1) (by
    unfold askR numR takeR
    rw [if_neg (by decide), if_pos (by omega)]
    have : (b9.drop 0).take 8 = List.replicate 8 0 := by rw [hb9]; rfl
    simp only [RR.bind, this, fold0]
    rw [A.ok_wrap]
    rfl)
  obtain ⟨r, hr⟩ : ∃ r : List UInt8, r = [0, 0, 0, 0, 0, 0, 0, 2, 97, 98] := ⟨_, rfl⟩
  have h12 := Text12n A B hP ⟨#[97, 98]⟩ (by decide) r (by rw [hr]; decide)
  have h34a := End34 A B hP b7 0 7 7 30 (by unfold endR; rw [if_pos (by decide)])
  have h34b := End34 A B hP b9 8 (-1) 8 30 (by unfold endR; rw [if_neg (by decide), if_pos (by omega)]; rfl)
  cbv
  ((try cbv) <;> (repeat ((with_reducible refine EW.of ?_); cbv)))
  refine ⟨by decide, ?_⟩
  refine ⟨Ent.of (hP ▸ Try.func18) rfl, ?_⟩
  refine TC1.call [] h18a ?_
  cbv
  (repeat (first | exact trivial | refine And.intro hv7.symm ?_ | refine And.intro hv9.symm ?_ | refine And.intro (Emb.Pur _ _) ?_ | refine And.intro rfl ?_))
  ((try cbv) <;> (repeat ((with_reducible refine EW.of ?_); cbv)))
  refine ⟨by decide, ?_⟩
  refine ⟨Ent.of (hP ▸ Try.func18) rfl, ?_⟩
  refine TC1.call [] h18b ?_
  cbv
  (repeat (first | exact trivial | refine And.intro hv7.symm ?_ | refine And.intro hv9.symm ?_ | refine And.intro (Emb.Pur _ _) ?_ | refine And.intro rfl ?_))
  ((try cbv) <;> (repeat ((with_reducible refine EW.of ?_); cbv)))
  refine ⟨Ent.of (hP ▸ Try.func20) rfl, ?_⟩
  refine TC1.call [0] h20a ?_
  cbv
  (repeat (first | exact trivial | refine And.intro hv7.symm ?_ | refine And.intro hv9.symm ?_ | refine And.intro (Emb.Pur _ _) ?_ | refine And.intro rfl ?_))
  ((try cbv) <;> (repeat ((with_reducible refine EW.of ?_); cbv)))
  (first | refine bno (neF rfl) ?_ | refine bno (nbF rfl) ?_)
  ((try cbv) <;> (repeat ((with_reducible refine EW.of ?_); cbv)))
  refine ⟨Ent.of (hP ▸ Try.func20) rfl, ?_⟩
  refine TC1.call [1] h20b ?_
  cbv
  (repeat (first | exact trivial | refine And.intro hv7.symm ?_ | refine And.intro hv9.symm ?_ | refine And.intro (Emb.Pur _ _) ?_ | refine And.intro rfl ?_))
  ((try cbv) <;> (repeat ((with_reducible refine EW.of ?_); cbv)))
  (first | refine bno (neF rfl) ?_ | refine bno (nbF rfl) ?_)
  ((try cbv) <;> (repeat ((with_reducible refine EW.of ?_); cbv)))
  refine ⟨Ent.of (hP ▸ Try.func34) rfl, ?_⟩
  refine TC1.call [0] h34a ?_
  cbv
  (repeat (first | exact trivial | refine And.intro hv7.symm ?_ | refine And.intro hv9.symm ?_ | refine And.intro (Emb.Pur _ _) ?_ | refine And.intro rfl ?_))
  ((try cbv) <;> (repeat ((with_reducible refine EW.of ?_); cbv)))
  refine ⟨Ent.of (hP ▸ Try.func34) rfl, ?_⟩
  refine TC1.call [1] h34b ?_
  cbv
  (repeat (first | exact trivial | refine And.intro hv7.symm ?_ | refine And.intro hv9.symm ?_ | refine And.intro (Emb.Pur _ _) ?_ | refine And.intro rfl ?_))
  ((try cbv) <;> (repeat ((with_reducible refine EW.of ?_); cbv)))
  (first | refine byes (eqT rfl) ?_ | refine byes (beqT rfl) ?_)
  ((try cbv) <;> (repeat ((with_reducible refine EW.of ?_); cbv)))
  (first | refine byes (eqT rfl) ?_ | refine byes (beqT rfl) ?_)
  ((try cbv) <;> (repeat ((with_reducible refine EW.of ?_); cbv)))
  (first | refine byes (eqT rfl) ?_ | refine byes (beqT rfl) ?_)
  ((try cbv) <;> (repeat ((with_reducible refine EW.of ?_); cbv)))
  (first | refine byes (eqT rfl) ?_ | refine byes (beqT rfl) ?_)
  ((try cbv) <;> (repeat ((with_reducible refine EW.of ?_); cbv)))
  (refine ⟨Ent.of (hP ▸ Try.func12) rfl, ?_⟩; refine TC.pureE h12 ?_; cbv; (repeat (first | exact trivial | refine And.intro (Emb.Pur _ _) ?_ | refine And.intro rfl ?_ | refine And.intro (Pur.mk rfl) ?_ | refine And.intro (Pur.mk (by assumption)) ?_)); ((try cbv) <;> (repeat ((with_reducible refine EW.of ?_); cbv))))
  refine ⟨r, B.bytes r, ?_⟩
  cbv
  ((try cbv) <;> (repeat ((with_reducible refine EW.of ?_); cbv)))
  exact And.intro (by rw [hr]; exact seq_self A _) trivial
set_option maxHeartbeats 1000000 in
theorem lawNil (A : Ar) (B : EmB) {P : Program} (hP : P = Try.prog) (x y : Int) : TPure P 5 [.int .i64 x, .int .i64 y] (.bool true) := by
  refine TPure.ofE A T0 (T0_ok hP) (hP ▸ Try.func5) rfl _ rfl (by simp) ?_
  have h34 := End34n A hP
  have h26 := Node26n A hP
  unfold nodeZ at h26
  have h20 := Number20n A hP
  have h22 := Small22n A hP
  have h24 := Text24n A hP
  have h29 := Steps29n A hP
  have h32 := Count32n A hP x y
  have h9 := wakes9 A B hP
  cbv
  ((try cbv) <;> (repeat ((with_reducible refine EW.of ?_); cbv)))
  (refine ⟨Ent.of (hP ▸ Try.func34) rfl, ?_⟩; refine TC.pureE h34 ?_; cbv; (repeat (first | exact trivial | refine And.intro (Emb.Pur _ _) ?_ | refine And.intro rfl ?_ | refine And.intro (Pur.mk rfl) ?_ | refine And.intro (Pur.mk (by assumption)) ?_)); ((try cbv) <;> (repeat ((with_reducible refine EW.of ?_); cbv))))
  (refine ⟨Ent.of (hP ▸ Try.func26) rfl, ?_⟩; refine TC.pureE h26 ?_; cbv; (repeat (first | exact trivial | refine And.intro (Emb.Pur _ _) ?_ | refine And.intro rfl ?_ | refine And.intro (Pur.mk rfl) ?_ | refine And.intro (Pur.mk (by assumption)) ?_)); ((try cbv) <;> (repeat ((with_reducible refine EW.of ?_); cbv))))
  (refine ⟨Ent.of (hP ▸ Try.func20) rfl, ?_⟩; refine TC.pureE h20 ?_; cbv; (repeat (first | exact trivial | refine And.intro (Emb.Pur _ _) ?_ | refine And.intro rfl ?_ | refine And.intro (Pur.mk rfl) ?_ | refine And.intro (Pur.mk (by assumption)) ?_)); ((try cbv) <;> (repeat ((with_reducible refine EW.of ?_); cbv))))
  (first | refine byes (eqT rfl) ?_ | refine byes (beqT rfl) ?_)
  cbv
  (refine ⟨Ent.of (hP ▸ Try.func22) rfl, ?_⟩; refine TC.pureE h22 ?_; cbv; (repeat (first | exact trivial | refine And.intro (Emb.Pur _ _) ?_ | refine And.intro rfl ?_ | refine And.intro (Pur.mk rfl) ?_ | refine And.intro (Pur.mk (by assumption)) ?_)); ((try cbv) <;> (repeat ((with_reducible refine EW.of ?_); cbv))))
  (first | refine byes (eqT rfl) ?_ | refine byes (beqT rfl) ?_)
  cbv
  (refine ⟨Ent.of (hP ▸ Try.func24) rfl, ?_⟩; refine TC.pureE h24 ?_; cbv; (repeat (first | exact trivial | refine And.intro (Emb.Pur _ _) ?_ | refine And.intro rfl ?_ | refine And.intro (Pur.mk rfl) ?_ | refine And.intro (Pur.mk (by assumption)) ?_)); ((try cbv) <;> (repeat ((with_reducible refine EW.of ?_); cbv))))
  refine byes (seq_self A _) ?_
  cbv
  ((try cbv) <;> (repeat ((with_reducible refine EW.of ?_); cbv)))
  (first | refine byes (eqT rfl) ?_ | refine byes (beqT rfl) ?_)
  cbv
  ((try cbv) <;> (repeat ((with_reducible refine EW.of ?_); cbv)))
  (first | refine byes (eqT rfl) ?_ | refine byes (beqT rfl) ?_)
  cbv
  (refine ⟨Ent.of (hP ▸ Try.func29) rfl, ?_⟩; refine TC.pureE h29 ?_; cbv; (repeat (first | exact trivial | refine And.intro (Emb.Pur _ _) ?_ | refine And.intro rfl ?_ | refine And.intro (Pur.mk rfl) ?_ | refine And.intro (Pur.mk (by assumption)) ?_)); ((try cbv) <;> (repeat ((with_reducible refine EW.of ?_); cbv))))
  (first | refine byes (eqT rfl) ?_ | refine byes (beqT rfl) ?_)
  cbv
  (refine ⟨Ent.of (hP ▸ Try.func32) rfl, ?_⟩; refine TC.pureE h32 ?_; cbv; (repeat (first | exact trivial | refine And.intro (Emb.Pur _ _) ?_ | refine And.intro rfl ?_ | refine And.intro (Pur.mk rfl) ?_ | refine And.intro (Pur.mk (by assumption)) ?_)); ((try cbv) <;> (repeat ((with_reducible refine EW.of ?_); cbv))))
  (first | refine byes (eqT rfl) ?_ | refine byes (beqT rfl) ?_)
  cbv
  ((try cbv) <;> (repeat ((with_reducible refine EW.of ?_); cbv)))
  (first | refine byes (eqT rfl) ?_ | refine byes (beqT rfl) ?_)
  cbv
  ((try cbv) <;> (repeat ((with_reducible refine EW.of ?_); cbv)))
  (first | refine byes (eqT rfl) ?_ | refine byes (beqT rfl) ?_)
  cbv
  (refine ⟨Ent.of (hP ▸ Try.func9) rfl, ?_⟩; refine TC.pureE h9 ?_; cbv; (repeat (first | exact trivial | refine And.intro (Emb.Pur _ _) ?_ | refine And.intro rfl ?_ | refine And.intro (Pur.mk rfl) ?_ | refine And.intro (Pur.mk (by assumption)) ?_)); ((try cbv) <;> (repeat ((with_reducible refine EW.of ?_); cbv))))
end Go.Proofs.Ytmbbdabcbnemiaa
