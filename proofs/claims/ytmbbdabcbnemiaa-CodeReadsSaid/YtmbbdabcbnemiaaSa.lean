import Derived.Test.YtmbbdabcbnemiaaRz
/-! The reference's reader. -/
namespace Go.Proofs.Ytmbbdabcbnemiaa
open Go.Proofs.Ytmbbdabcbnemiaa.Tw
def rdrF (B : EmB) (bs : List UInt8) (at' bad c : Int) : AO := .box 4 (.agg [.sl 1 (B.l.l bs), .int .i64 at', .int .i64 bad, .int .i64 c])
theorem New19 (A : Ar) (B : EmB) {P : Program} (hP : P = Try.prog) (bs : List UInt8) : TC1 P 19 [.sl 1 (B.l.l bs)] [] (.ref 0 4 0 0) [some (rdrF B bs 0 (-1) 0)] := by
  unfold rdrF
  refine TC1.of A _ _ T0 (T0_ok hP) (hP ▸ Try.func19) rfl _ rfl (by simp) ?_
  cbv
  ((try cbv) <;> (repeat ((with_reducible refine EW.of ?_); cbv)))
  refine R1.of ?_
  cbv
  (repeat (first | exact trivial | refine And.intro (Emb.Pur _ _) ?_ | refine And.intro rfl ?_ | refine And.intro (Pur.mk rfl) ?_))
theorem fails44 (A : Ar) (B : EmB) {P : Program} (hP : P = Try.prog) (bs : List UInt8) (a bad c : Int) (hb : bad < 0) (e : Int) : TC1 P 44 [.ref 0 4 0 0, .int .i64 e] [some (rdrF B bs a bad c)] (.tup []) [some (rdrF B bs a e c)] := by
  unfold rdrF
  refine TC1.of A _ _ T0 (T0_ok hP) (hP ▸ Try.func44) rfl _ rfl (by simp) ?_
  cbv
  ((try cbv) <;> (repeat ((with_reducible refine EW.of ?_); cbv)))
  refine byes (show A.lt bad 0 = true from ltT hb) ?_
  ((try cbv) <;> (repeat ((with_reducible refine EW.of ?_); cbv)))
  refine R1.of ?_
  cbv
  (repeat (first | exact trivial | refine And.intro (Emb.Pur _ _) ?_ | refine And.intro rfl ?_ | refine And.intro (Pur.mk rfl) ?_))
theorem End35 (A : Ar) (B : EmB) {P : Program} (hP : P = Try.prog) (bs : List UInt8) (a : Nat) (bad c : Int) (x y : Int) (h : endR bs a bad = (x, y)) :
    TC1 P 35 [.ref 0 4 0 0] [some (rdrF B bs a bad c)] (.tup [.int .i64 x, .int .i64 y]) [some (rdrF B bs a bad c)] := by
  refine TC1.of A _ _ T0 (T0_ok hP) (hP ▸ Try.func35) rfl _ rfl (by simp) ?_
  have hll := B.l.len bs
  unfold endR at h
  unfold rdrF
  cbv
  ((try cbv) <;> (repeat ((with_reducible refine EW.of ?_); cbv)))
  by_cases h1 : 0 ≤ bad
  · rw [if_pos h1] at h
    refine byes (leT h1) ?_
    cases h
    ((try cbv) <;> (repeat ((with_reducible refine EW.of ?_); cbv)))
    refine R1.of ?_
    cbv
    (repeat (first | exact trivial | refine And.intro (Emb.Pur _ _) ?_ | refine And.intro rfl ?_))
  rw [if_neg h1] at h
  refine bno (leF (Int.not_le.1 h1)) ?_
  ((try cbv) <;> (repeat ((with_reducible refine EW.of ?_); cbv)))
  (refine TW.draw (A := A) (T0_ok hP) (hP ▸ follows_mixed) (by kernel_rfl) rfl ?_; cbv)
  ((try cbv) <;> (repeat ((with_reducible refine EW.of ?_); cbv)))
  by_cases h2 : a < bs.length
  · rw [if_pos h2] at h
    refine byes (show A.lt (a : Int) (A.len (B.l.l bs)) = true from ltT (by rw [A.ok_len, hll]; omega)) ?_
    cases h
    ((try cbv) <;> (repeat ((with_reducible refine EW.of ?_); cbv)))
    refine R1.of ?_
    cbv
    (repeat (first | exact trivial | refine And.intro (Emb.Pur _ _) ?_ | refine And.intro rfl ?_))
  rw [if_neg h2] at h
  refine bno (show A.lt (a : Int) (A.len (B.l.l bs)) = false from ltF (by rw [A.ok_len, hll]; omega)) ?_
  cases h
  ((try cbv) <;> (repeat ((with_reducible refine EW.of ?_); cbv)))
  refine R1.of ?_
  cbv
  (repeat (first | exact trivial | refine And.intro (Emb.Pur _ _) ?_ | refine And.intro rfl ?_))
theorem bs_get {bs : List UInt8} {a n j : Nat} (hj : j < n) : ((bs.drop a).take n)[j]? = bs[a + j]? := by
  rw [List.getElem?_take_of_lt hj, List.getElem?_drop]
set_option maxHeartbeats 2000000 in
theorem Number21 (A : Ar) (B : EmB) {P : Program} (hP : P = Try.prog) (bs : List UInt8) (hl : bs.length ≤ 1000000000) (a : Nat) (ha : a ≤ bs.length) (bad c : Int) (v : Int) (a2 : Nat) (bad2 : Int) (h : askR 0 bs a bad (numR A bs a) = (v, a2, bad2)) :
    TC1 P 21 [.ref 0 4 0 0] [some (rdrF B bs a bad c)] (.int .i64 v) [some (rdrF B bs a2 bad2 c)] := by
  refine TC1.of A _ _ T0 (T0_ok hP) (hP ▸ Try.func21) rfl _ rfl (by simp) ?_
  have hll := B.l.len bs
  have hlk : A.len (B.l.l bs) = (bs.length : Int) := by rw [A.ok_len, hll]
  unfold askR at h
  by_cases h0 : 0 ≤ bad
  · rw [if_pos h0] at h
    cases h
    unfold rdrF
    cbv
    ((try cbv) <;> (repeat ((with_reducible refine EW.of ?_); cbv)))
    refine byes (leT h0) ?_
    ((try cbv) <;> (repeat ((with_reducible refine EW.of ?_); cbv)))
    refine R1.of ?_
    cbv
    (repeat (first | exact trivial | refine And.intro (Emb.Pur _ _) ?_ | refine And.intro rfl ?_ | refine And.intro (Pur.mk rfl) ?_))
  rw [if_neg h0] at h
  have hb : bad < 0 := by omega
  have hsub : A.op .sub .i64 (A.len (B.l.l bs)) (a : Int) = ((bs.length - a : Nat) : Int) := by rw [hlk, sub_i64 rfl rfl (by omega) (by omega)]; omega
  unfold numR takeR at h
  by_cases h1 : a + 8 ≤ bs.length
  · rw [if_pos h1] at h
    obtain ⟨l, hl8⟩ : ∃ l, l = (bs.drop a).take 8 := ⟨_, rfl⟩
    have hlen : l.length = 8 := by rw [hl8, List.length_take, List.length_drop]; omega
    have hget : ∀ j, j < 8 → bs[a + j]? = l[j]? := fun j hj => by rw [hl8, bs_get hj]
    simp only [RR.bind, ← hl8] at h
    obtain ⟨rfl, rfl, rfl⟩ : A.wrap .i64 (foldN A 0 l) = v ∧ a + 8 = a2 ∧ bad = bad2 := by
      cases h; exact ⟨rfl, rfl, rfl⟩
    have h8 : (8 : Int) ≤ ((bs.length - a : Nat) : Int) := by omega
    clear h hl8
    obtain ⟨res, hres⟩ : ∃ res, A.wrap .i64 (foldN A 0 l) = res := ⟨_, rfl⟩
    obtain ⟨a8, ha8⟩ : ∃ a8, a8 = a + 8 := ⟨_, rfl⟩
    have hadd : A.op .add .i64 (a : Int) 8 = (a8 : Int) := by rw [add_i64 rfl rfl (by omega) (by omega)]; omega
    rw [hres, ← ha8]
    unfold rdrF
    cbv
    ((try cbv) <;> (repeat ((with_reducible refine EW.of ?_); cbv)))
    refine bno (leF hb) ?_
    ((try cbv) <;> (repeat ((with_reducible refine EW.of ?_); cbv)))
    (refine TW.draw (A := A) (T0_ok hP) (hP ▸ follows_mixed) (by kernel_rfl) rfl ?_; cbv)
    ((try cbv) <;> (repeat ((with_reducible refine EW.of ?_); cbv)))
    refine bno (show A.lt (A.op .sub .i64 (A.len (B.l.l bs)) (a : Int)) 8 = false by rw [hsub]; exact ltF h8) ?_
    ((try cbv) <;> (repeat ((with_reducible refine EW.of ?_); cbv)))
    obtain ⟨S, hS⟩ : ∃ S : LI (Nat × Int), S = ⟨fun x => [(4, .int .i64 x.1), (3, .int .u64 x.2), (2, .int .i64 0), (0, .ref 0 4 0 0)], fun _ => [some (.box 4 (.agg [.sl 1 (B.l.l bs), .int .i64 a, .int .i64 bad, .int .i64 c]))], fun x => x.1 ≤ 8 ∧ A.wrap .i64 (foldN A x.2 (l.drop x.1)) = res, fun x => 8 - x.1⟩ := ⟨_, rfl⟩
    refine TW.loopM A (T0_ok hP) S _ rfl (0, 0) ?_ ?_ ?_
    · rw [hS]; exact ⟨Nat.zero_le _, hres⟩
    · rw [hS]
      cbv
      (repeat (first | exact trivial | refine And.intro (Emb.Pur _ _) ?_ | refine And.intro rfl ?_ | refine And.intro (Pur.mk rfl) ?_))
    rintro ⟨j, n⟩ hj l1 L1 e1 e2
    rw [hS] at hj e1 e2
    dsimp only at hj e1 e2
    obtain ⟨hj, hinv⟩ := hj
    subst e1 e2
    cbv
    ((try cbv) <;> (repeat ((with_reducible refine EW.of ?_); cbv)))
    refine bsplit (fun h => ?_) (fun h => ?_)
    · have h : j < 8 := lt_nt (j := 8) h rfl rfl
      obtain ⟨x, hx⟩ : ∃ x, l[j]? = some x := ⟨_, List.getElem?_eq_getElem (by omega)⟩
      rw [foldN_drop hx] at hinv
      obtain ⟨n2, hn2⟩ : ∃ n2, n2 = stepN A n x := ⟨_, rfl⟩
      rw [← hn2] at hinv
      have hbx : bs[a + j]? = some x := by rw [hget j h, hx]
      have haj : A.op .add .i64 (a : Int) (j : Int) = ((a + j : Nat) : Int) := by rw [add_i64 rfl rfl (by omega) (by omega)]; omega
      obtain ⟨k, hk⟩ : ∃ k, k = a + j := ⟨_, rfl⟩
      rw [← hk] at hbx haj
      ((try cbv) <;> (repeat ((with_reducible refine EW.of ?_); cbv)))
      (refine TW.draw (A := A) (T0_ok hP) (hP ▸ follows_mixed) (by kernel_rfl) rfl ?_; cbv)
      refine ⟨by decide, ?_⟩
      refine ⟨k, _, haj, B.get hbx, ?_⟩
      cbv
      ((try cbv) <;> (repeat ((with_reducible refine EW.of ?_); cbv)))
      refine LM.of (j + 1, n2) rfl ?_ ?_ ?_
      · rw [hS]; exact ⟨by show j + 1 ≤ _; omega, hinv⟩
      · rw [hS]; show 8 - (j + 1) < 8 - j; omega
      · rw [hS]
        cbv
        (repeat (first | exact trivial | refine And.intro (Emb.Pur _ _) ?_ | refine And.intro (inc_eq A (by omega)) ?_ | refine And.intro rfl ?_ | refine And.intro hn2.symm ?_))
    · have h : 8 ≤ j := lt_nf (j := 8) h rfl rfl
      rw [List.drop_eq_nil_of_le (by omega)] at hinv
      ((try cbv) <;> (repeat ((with_reducible refine EW.of ?_); cbv)))
      refine R1.of ?_
      cbv
      (repeat (first | exact trivial | refine And.intro (Emb.Pur _ _) ?_ | refine And.intro hinv ?_ | refine And.intro hadd ?_ | refine And.intro rfl ?_))
  · rw [if_neg h1] at h
    have h8 : ((bs.length - a : Nat) : Int) < 8 := by omega
    cases h
    have h44 := fails44 A B hP bs a bad c hb (A.len (B.l.l bs))
    rw [← hlk]
    unfold rdrF at *
    cbv
    ((try cbv) <;> (repeat ((with_reducible refine EW.of ?_); cbv)))
    refine bno (leF hb) ?_
    ((try cbv) <;> (repeat ((with_reducible refine EW.of ?_); cbv)))
    (refine TW.draw (A := A) (T0_ok hP) (hP ▸ follows_mixed) (by kernel_rfl) rfl ?_; cbv)
    ((try cbv) <;> (repeat ((with_reducible refine EW.of ?_); cbv)))
    refine byes (show A.lt (A.op .sub .i64 (A.len (B.l.l bs)) (a : Int)) 8 = true by rw [hsub]; exact ltT h8) ?_
    ((try cbv) <;> (repeat ((with_reducible refine EW.of ?_); cbv)))
    refine ⟨Ent.of (hP ▸ Try.func44) rfl, ?_⟩
    refine TC1.call [0] h44 ?_
    cbv
    (repeat (first | exact trivial | refine And.intro (Emb.Pur _ _) ?_ | refine And.intro rfl ?_ | refine And.intro (Pur.mk rfl) ?_))
    ((try cbv) <;> (repeat ((with_reducible refine EW.of ?_); cbv)))
    refine R1.of ?_
    cbv
    (repeat (first | exact trivial | refine And.intro (Emb.Pur _ _) ?_ | refine And.intro rfl ?_ | refine And.intro (Pur.mk rfl) ?_))
end Go.Proofs.Ytmbbdabcbnemiaa
