import Derived.Test.YtmbbdabcbnemiaaRc
/-! A reader laid, and its end. -/
namespace Go.Proofs.Ytmbbdabcbnemiaa
open Go.Proofs.Ytmbbdabcbnemiaa.Tw
theorem EmB.scal (B : EmB) (l : List UInt8) : Scal (B.l.l l) := ⟨by
  rw [B.l.ok, B.ok]
  simp [escal, AV.cells, AV.scalar]⟩
theorem msplit {els : List AV} {X : Prop} {Y : AV → List AV → Prop} : (els = [] → X) → (∀ x xs, els = x :: xs → Y x xs) → (match els with | [] => X | x :: xs => Y x xs) := fun h1 h2 => by
  cases els with
  | nil => exact h1 rfl
  | cons x xs => exact h2 x xs rfl
theorem own38n (A : Ar) {P : Program} (hP : P = Try.prog) : TPure P 38 [.sl 1 []] .nils := by
  refine TPure.ofE A T0 (T0_ok hP) (hP ▸ Try.func38) rfl _ rfl (by simp) ?_
  cbv
  ((try cbv) <;> (repeat ((with_reducible refine EW.of ?_); cbv)))
theorem own38 (A : Ar) (B : EmB) {P : Program} (hP : P = Try.prog) (bs : List UInt8) (hl : bs.length ≤ 1000000000) (h0 : bs ≠ []) (q : Nat) (hq : q = bs.length) : TC1 P 38 [.sl 1 (B.l.l bs)] [] (.row 0 1 0 q) [some (.arr 1 (B.l.l bs))] := by
  refine TC1.of A _ _ T0 (T0_ok hP) (hP ▸ Try.func38) rfl _ rfl (by simp) ?_
  have hll := B.l.len bs
  have hsc := B.scal bs
  have hne : B.l.l bs ≠ [] := fun e => h0 (List.eq_nil_of_length_eq_zero (by rw [← hll, e]; rfl))
  cbv
  ((try cbv) <;> (repeat ((with_reducible refine EW.of ?_); cbv)))
  refine msplit (fun he => absurd he hne) (fun a al he => ?_)
  have he2 : a :: al = B.l.l bs := he.symm
  refine ⟨⟨by rw [he2]; exact hsc.h⟩, q, B.l.l bs, by rw [he2, hll, Nat.zero_add, hq], by rw [he2]; rfl, Nat.zero_le _, by show q * 1 ≤ _; omega, by omega, ?_⟩
  cbv
  ((try cbv) <;> (repeat ((with_reducible refine EW.of ?_); cbv)))
  refine R1.of ?_
  cbv
  (repeat (first | exact trivial | refine And.intro (Emb.Pur _ _) ?_ | refine And.intro rfl ?_))
theorem New18 (A : Ar) (B : EmB) {P : Program} (hP : P = Try.prog) (bs : List UInt8) (hl : bs.length ≤ 1000000000) : TC1 P 18 [.sl 1 (B.l.l bs)] [] (.ref 0 3 0 0) [some (rdr B bs 0 (-1))] := by
  by_cases h0 : bs = []
  · subst h0
    have h38 := own38n A hP
    unfold rdr
    rw [B.l.nil]
    refine TC1.of A _ _ T0 (T0_ok hP) (hP ▸ Try.func18) rfl _ rfl (by simp) ?_
    cbv
    ((try cbv) <;> (repeat ((with_reducible refine EW.of ?_); cbv)))
    (refine ⟨Ent.of (hP ▸ Try.func38) rfl, ?_⟩; refine TC.pureE h38 ?_; cbv; (repeat (first | exact trivial | refine And.intro (Emb.Pur _ _) ?_ | refine And.intro rfl ?_ | refine And.intro (Pur.mk rfl) ?_ | refine And.intro (Pur.mk (by assumption)) ?_)); ((try cbv) <;> (repeat ((with_reducible refine EW.of ?_); cbv))))
    (repeat (first | refine And.intro (Pur.mk rfl) ?_))
    ((try cbv) <;> (repeat ((with_reducible refine EW.of ?_); cbv)))
    refine R1.of ?_
    cbv
    (repeat (first | exact trivial | refine And.intro (Pur.mk rfl) ?_ | refine And.intro rfl ?_))
  · obtain ⟨q, hq⟩ : ∃ q, q = bs.length := ⟨_, rfl⟩
    have h38 := own38 A B hP bs hl h0 q hq
    unfold rdr
    refine TC1.of A _ _ T0 (T0_ok hP) (hP ▸ Try.func18) rfl _ rfl (by simp) ?_
    cbv
    ((try cbv) <;> (repeat ((with_reducible refine EW.of ?_); cbv)))
    refine ⟨Ent.of (hP ▸ Try.func38) rfl, ?_⟩
    refine TC1.call [] h38 ?_
    cbv
    (repeat (first | exact trivial | refine And.intro (Emb.Pur _ _) ?_ | refine And.intro rfl ?_))
    ((try cbv) <;> (repeat ((with_reducible refine EW.of ?_); cbv)))
    refine R1.of ?_
    cbv
    exact ⟨B.l.cut hq, B.l.Pur _, trivial⟩
theorem End34n (A : Ar) {P : Program} (hP : P = Try.prog) : TPure P 34 [.nil] (.tup [.int .i64 0, .int .i64 1]) := by
  refine TPure.ofE A T0 (T0_ok hP) (hP ▸ Try.func34) rfl _ rfl (by simp) ?_
  cbv
  ((try cbv) <;> (repeat ((with_reducible refine EW.of ?_); cbv)))
def endR (bs : List UInt8) (a : Nat) (bad : Int) : Int × Int := if 0 ≤ bad then (bad, 30) else if a < bs.length then ((a : Int), 30) else (0, 0)
theorem End34 (A : Ar) (B : EmB) {P : Program} (hP : P = Try.prog) (bs : List UInt8) (a : Nat) (bad : Int) (x y : Int) (h : endR bs a bad = (x, y)) :
    TC1 P 34 [.ref 0 3 0 0] [some (rdr B bs a bad)] (.tup [.int .i64 x, .int .i64 y]) [some (rdr B bs a bad)] := by
  refine TC1.of A _ _ T0 (T0_ok hP) (hP ▸ Try.func34) rfl _ rfl (by simp) ?_
  have hll := B.l.len bs
  unfold endR at h
  unfold rdr
  cbv
  ((try cbv) <;> (repeat ((with_reducible refine EW.of ?_); cbv)))
  by_cases h1 : 0 ≤ bad
  · rw [if_pos h1] at h
    refine byes (leT h1) ?_
    cases h
    ((try cbv) <;> (repeat ((with_reducible refine EW.of ?_); cbv)))
    refine R1.of ?_
    cbv
    (repeat (first | exact trivial | refine And.intro (Emb.Pur _ _) ?_ | refine And.intro rfl ?_))
  rw [if_neg h1] at h
  refine bno (leF (Int.not_le.1 h1)) ?_
  ((try cbv) <;> (repeat ((with_reducible refine EW.of ?_); cbv)))
  (refine TW.draw (A := A) (T0_ok hP) (hP ▸ follows_mixed) (by kernel_rfl) rfl ?_; cbv)
  ((try cbv) <;> (repeat ((with_reducible refine EW.of ?_); cbv)))
  by_cases h2 : a < bs.length
  · rw [if_pos h2] at h
    refine byes (show A.lt (a : Int) (A.len (B.l.l bs)) = true from ltT (by rw [A.ok_len, hll]; omega)) ?_
    cases h
    ((try cbv) <;> (repeat ((with_reducible refine EW.of ?_); cbv)))
    refine R1.of ?_
    cbv
    (repeat (first | exact trivial | refine And.intro (Emb.Pur _ _) ?_ | refine And.intro rfl ?_))
  rw [if_neg h2] at h
  refine bno (show A.lt (a : Int) (A.len (B.l.l bs)) = false from ltF (by rw [A.ok_len, hll]; omega)) ?_
  cases h
  ((try cbv) <;> (repeat ((with_reducible refine EW.of ?_); cbv)))
  refine R1.of ?_
  cbv
  (repeat (first | exact trivial | refine And.intro (Emb.Pur _ _) ?_ | refine And.intro rfl ?_))
/-- A number's bytes. -/
def numI (n : Int) (i : Nat) : Int := IntKind.u8.wrap ((IntKind.u64.wrap n).fdiv (2 ^ (56 - 8 * i)))
def numBs (n : Int) : List UInt8 := (List.range 8).map fun i => UInt8.ofNat (numI n i).toNat
theorem wrap_u8 (x : Int) : 0 ≤ IntKind.u8.wrap x ∧ IntKind.u8.wrap x < 256 := by
  simp only [IntKind.wrap, IntKind.signed, IntKind.bits]
  simp
  omega
theorem byte_ofInt {x : Int} (h : 0 ≤ x ∧ x < 256) : ((UInt8.ofNat x.toNat).toNat : Int) = x := by
  rw [UInt8.toNat_ofNat']
  omega
theorem sh_op (A : Ar) {j : Nat} (hj : j < 8) : A.op .sub .i64 56 (A.op .mul .i64 8 (j : Int)) = ((56 - 8 * j : Nat) : Int) := by
  rw [A.ok_mul, wrap_i64 (by omega) (by omega), sub_i64 rfl rfl (by omega) (by omega)]
  omega
theorem num_op (A : Ar) (n : Int) {j : Nat} (hj : j < 8) : A.wrap .u8 (A.op .shr .u64 (A.wrap .u64 n) (A.op .sub .i64 56 (A.op .mul .i64 8 (j : Int)))) = ((UInt8.ofNat (numI n j).toNat).toNat : Int) := by
  rw [sh_op A hj, A.ok_wrap, A.ok_shr, A.ok_wrap]
  unfold numI
  rw [byte_ofInt (wrap_u8 _)]
  have : min (((56 - 8 * j : Nat) : Int).toNat) IntKind.u64.bits = 56 - 8 * j := by
    rw [Int.toNat_natCast]
    exact Nat.min_eq_left (by show 56 - 8 * j ≤ 64; omega)
  rw [this]
theorem numBs_get (n : Int) {j : Nat} (hj : j < 8) : (numBs n)[j]? = some (UInt8.ofNat (numI n j).toNat) := by simp [numBs, hj]
theorem numBs_len (n : Int) : (numBs n).length = 8 := by simp [numBs]
def stB (B : EmB) (L : Store) : Option (Nat × List UInt8) → Store
  | none => L
  | some (_, l) => L ++ [some (.arr 1 (B.l.l l))]
def rowB (p : Nat) : Option (Nat × List UInt8) → AV
  | none => .nils
  | some (m, _) => .row p 1 0 m
def outB : Option (Nat × List UInt8) → List UInt8
  | none => []
  | some (_, l) => l
def okB : Option (Nat × List UInt8) → Prop
  | none => True
  | some (m, l) => m = l.length
set_option maxHeartbeats 1000000 in
theorem number37n (A : Ar) (B : EmB) {P : Program} (hP : P = Try.prog) (n : Int) (r : List UInt8) (hr : numBs n = r) : TC1 P 37 [.nils, .int .i64 n] [] (.row 0 1 0 8) [some (.arr 1 (B.l.l r))] := by
  refine TC1.of A _ _ T0 (T0_ok hP) (hP ▸ Try.func37) rfl _ rfl (by simp) ?_
  have hrl : r.length = 8 := by rw [← hr]; exact numBs_len n
  cbv
  ((try cbv) <;> (repeat ((with_reducible refine EW.of ?_); cbv)))
  obtain ⟨S, hS⟩ : ∃ S : LI (Nat × Option (Nat × List UInt8)), S = ⟨fun x => [(6, .int .i64 x.1), (4, .nils), (0, rowB 0 x.2), (1, .int .i64 n)], fun x => stB B [] x.2, fun x => x.1 ≤ 8 ∧ okB x.2 ∧ outB x.2 = r.take x.1, fun x => 8 - x.1⟩ := ⟨_, rfl⟩
  refine TW.loopM A (T0_ok hP) S _ rfl (0, none) ?_ ?_ ?_
  · rw [hS]; exact ⟨Nat.zero_le _, trivial, by simp [outB]⟩
  · rw [hS]; cbv; (repeat (first | exact trivial | refine And.intro (Emb.Pur _ _) ?_ | refine And.intro rfl ?_ | refine And.intro (Pur.mk rfl) ?_ | refine And.intro (Pur.mk (by assumption)) ?_))
  rintro ⟨j, o⟩ hj l1 L1 e1 e2
  rw [hS] at hj e1 e2
  dsimp only at hj e1 e2
  obtain ⟨hj, hok, hout⟩ := hj
  subst e1
  cases o with
  | none =>
    dsimp only [stB, rowB, outB, okB] at e2 hok hout ⊢
    subst e2
    cbv
    ((try cbv) <;> (repeat ((with_reducible refine EW.of ?_); cbv)))
    refine bsplit (fun h => ?_) (fun h => ?_)
    · have h : j < 8 := lt_nt (j := 8) h rfl rfl
      have hel := num_op A n h
      have hgj : r[j]? = some (UInt8.ofNat (numI n j).toNat) := by rw [← hr]; exact numBs_get n h
      generalize UInt8.ofNat (numI n j).toNat = b at hel hgj
      have htk : r.take (j + 1) = r.take j ++ [b] := by rw [List.take_add_one, hgj]; rfl
      ((try cbv) <;> (repeat ((with_reducible refine EW.of ?_); cbv)))
      refine ⟨by show 0 ≤ A.op .sub .i64 56 (A.op .mul .i64 8 (j : Int)); rw [sh_op A h]; omega, ?_⟩
      ((try cbv) <;> (repeat ((with_reducible refine EW.of ?_); cbv)))
      have hes : AV.int .u8 (A.wrap .u8 (A.op .shr .u64 (A.wrap .u64 n) (A.op .sub .i64 56 (A.op .mul .i64 8 (j : Int))))) = B.l.v b := by rw [B.ok, hel]
      obtain ⟨l1, hl1⟩ : ∃ d, d = [] ++ [b] := ⟨_, rfl⟩
      obtain ⟨q1, hq1⟩ : ∃ q, q = l1.length := ⟨_, rfl⟩
      rw [← hout, ← hl1] at htk
      have hq2 : q1 = j + 1 := by rw [hq1, ← htk]; simp; omega
      refine ⟨⟨rfl⟩, q1, B.l.l l1, by rw [hq1, hl1]; rfl, by rw [hl1, List.nil_append, B.l.cons, B.l.nil, ← hes]; rfl, Nat.zero_le _, ?_, ?_, ?_⟩
      · rw [hq1, hl1]; simp
      · rw [hq1, hl1]; simp
      cbv
      ((try cbv) <;> (repeat ((with_reducible refine EW.of ?_); cbv)))
      refine LM.of (j + 1, some (q1, l1)) rfl ?_ ?_ ?_
      · rw [hS]; exact ⟨by show j + 1 ≤ 8; omega, hq1, htk.symm⟩
      · rw [hS]; show 8 - (j + 1) < 8 - j; omega
      · rw [hS]
        cbv
        (repeat (first | exact trivial | refine And.intro (Emb.Pur _ _) ?_ | refine And.intro (inc_eq A (by omega)) ?_ | refine And.intro rfl ?_))
    · have h : 8 ≤ j := lt_nf (j := 8) h rfl rfl
      exfalso
      have := congrArg List.length hout
      simp at this
      omega
  | some x =>
    obtain ⟨m, l⟩ := x
    dsimp only [stB, rowB, outB, okB] at e2 hok hout ⊢
    have hll := B.l.len l
    have hlj : l.length ≤ 8 := by rw [hout]; simp; omega
    subst e2
    cbv
    ((try cbv) <;> (repeat ((with_reducible refine EW.of ?_); cbv)))
    refine bsplit (fun h => ?_) (fun h => ?_)
    · have h : j < 8 := lt_nt (j := 8) h rfl rfl
      have hel := num_op A n h
      have hgj : r[j]? = some (UInt8.ofNat (numI n j).toNat) := by rw [← hr]; exact numBs_get n h
      generalize UInt8.ofNat (numI n j).toNat = b at hel hgj
      have htk : r.take (j + 1) = r.take j ++ [b] := by rw [List.take_add_one, hgj]; rfl
      ((try cbv) <;> (repeat ((with_reducible refine EW.of ?_); cbv)))
      refine ⟨by show 0 ≤ A.op .sub .i64 56 (A.op .mul .i64 8 (j : Int)); rw [sh_op A h]; omega, ?_⟩
      ((try cbv) <;> (repeat ((with_reducible refine EW.of ?_); cbv)))
      have hes : AV.int .u8 (A.wrap .u8 (A.op .shr .u64 (A.wrap .u64 n) (A.op .sub .i64 56 (A.op .mul .i64 8 (j : Int))))) = B.l.v b := by rw [B.ok, hel]
      obtain ⟨l1, hl1⟩ : ∃ d, d = l ++ [b] := ⟨_, rfl⟩
      obtain ⟨q1, hq1⟩ : ∃ q, q = l1.length := ⟨_, rfl⟩
      rw [← hout, ← hl1] at htk
      have hq2 : q1 = j + 1 := by rw [hq1, ← htk]; simp; omega
      have hq3 : q1 = m + 1 := by rw [hq1, hl1, hok]; simp
      refine ⟨⟨rfl⟩, q1, B.l.l l1, hq3, by rw [hl1, B.l.app, B.l.cons, B.l.nil, ← hes, List.take_of_length_le (show (B.l.l l).length ≤ m by omega)]; rfl, (show m ≤ (B.l.l l).length by omega), by omega, by omega, ?_⟩
      cbv
      ((try cbv) <;> (repeat ((with_reducible refine EW.of ?_); cbv)))
      refine LM.of (j + 1, some (q1, l1)) rfl ?_ ?_ ?_
      · rw [hS]; exact ⟨by show j + 1 ≤ 8; omega, hq1, htk.symm⟩
      · rw [hS]; show 8 - (j + 1) < 8 - j; omega
      · rw [hS]
        cbv
        (repeat (first | exact trivial | refine And.intro (Emb.Pur _ _) ?_ | refine And.intro (inc_eq A (by omega)) ?_ | refine And.intro rfl ?_))
    · have h : 8 ≤ j := lt_nf (j := 8) h rfl rfl
      obtain rfl : l = r := by rw [hout, List.take_of_length_le (by omega)]
      obtain rfl : m = 8 := by omega
      ((try cbv) <;> (repeat ((with_reducible refine EW.of ?_); cbv)))
      refine R1.of ?_
      cbv
      (repeat (first | exact trivial | refine And.intro (Emb.Pur _ _) ?_ | refine And.intro rfl ?_))
end Go.Proofs.Ytmbbdabcbnemiaa
