import Derived.Test.YtmbbdabcbnemiaaRi
/-! The reference's numbers and texts. -/
namespace Go.Proofs.Ytmbbdabcbnemiaa
open Go.Proofs.Ytmbbdabcbnemiaa.Tw
/-- What comes back as a row of ours, told as a plain row. -/
theorem TC1.frz {P : Program} {f : FuncId} {args : List AV} {v v' : AV} {M : Store} (h : TC1 P f args [] v M) (hr : R1 0 v' [] v M) : TPure P f args v' :=
  TPure.of ⟨fun w I ρ vs h1 h2 => (h.h w I ρ vs h1 h2).mono fun e w' ⟨x, L', I', ρ', a, ⟨b, c⟩, d, g, ev⟩ => by
    subst b c
    cases e with
    | returned u =>
      obtain ⟨I2, ρ2, d2, u2, ev2⟩ := vsv_use hr.h d a
      refine ⟨.ret v', [], I2, ρ2, u2, ⟨rfl, rfl⟩, d2, fun p b hp => ?_, ev.trans ev2⟩
      have := h1.len
      have := (List.getElem?_eq_some_iff.1 hp).1
      simp_all
    | panicked ch => exact a.elim
    | _ => exact a.elim⟩
theorem EmB.frz (B : EmB) {P : Program} {f : FuncId} {args : List AV} {r : List UInt8} {q : Nat} (hq : q = r.length) (h : TC1 P f args [] (.row 0 1 0 q) [some (.arr 1 (B.l.l r))]) : TPure P f args (.sl 1 (B.l.l r)) :=
  TC1.frz h (R1.of (by
    cbv
    exact And.intro (B.l.cut hq) (And.intro (B.l.Pur _) trivial)))
theorem num_opR0 (A : Ar) {j : Nat} (hj : j < 8) : 0 ≤ A.wrap .u64 (A.op .mul .i64 8 (7 - (j : Int))) := by
  rw [A.ok_mul, wrap_i64 (by omega) (by omega), A.ok_wrap]
  simp only [IntKind.wrap, IntKind.signed, IntKind.bits]
  simp
  omega
theorem num_opR (A : Ar) (n : Int) {j : Nat} (hj : j < 8) : A.wrap .u8 (A.op .shr .u64 (A.wrap .u64 n) (A.wrap .u64 (A.op .mul .i64 8 (7 - (j : Int))))) = ((UInt8.ofNat (numI n j).toNat).toNat : Int) := by
  have e : A.wrap .u64 (A.op .mul .i64 8 (7 - (j : Int))) = ((56 - 8 * j : Nat) : Int) := by
    rw [A.ok_mul, wrap_i64 (by omega) (by omega), A.ok_wrap]
    simp only [IntKind.wrap, IntKind.signed, IntKind.bits]
    simp
    omega
  rw [e, A.ok_wrap, A.ok_shr, A.ok_wrap]
  unfold numI
  rw [byte_ofInt (wrap_u8 _)]
  have : min (((56 - 8 * j : Nat) : Int).toNat) IntKind.u64.bits = 56 - 8 * j := by
    rw [Int.toNat_natCast]
    exact Nat.min_eq_left (by show 56 - 8 * j ≤ 64; omega)
  rw [this]
theorem i7_lt {i : Int} {j : Nat} (hi : i = 7 - (j : Int)) (h : 0 ≤ i) : j < 8 := by omega
theorem i7_ge {i : Int} {j : Nat} (hi : i = 7 - (j : Int)) (h : i < 0) : 8 ≤ j := by omega
theorem i7_dec (A : Ar) {i : Int} {j : Nat} (hi : i = 7 - (j : Int)) (hj : j < 8) : A.op .sub .i64 i 1 = 7 - ((j + 1 : Nat) : Int) := by rw [hi, sub_i64 rfl rfl (by omega) (by omega)]; omega
def startB (bs : List UInt8) : Option (Nat × List UInt8) := match bs with | [] => none | b :: l => some ((b :: l).length, b :: l)
set_option maxHeartbeats 1000000 in
theorem Number11r (A : Ar) (B : EmB) {P : Program} (hP : P = Try.prog) (bs : List UInt8) (hl : bs.length ≤ 500000000) (n : Int) (r : List UInt8) (hr : bs ++ numBs n = r) (q : Nat) (hq : q = r.length) : TC1 P 11 [.sl 1 (B.l.l bs), .int .i64 n] [] (.row 0 1 0 q) [some (.arr 1 (B.l.l r))] := by
  refine TC1.of A _ _ T0 (T0_ok hP) (hP ▸ Try.func11) rfl _ rfl (by simp) ?_
  obtain ⟨k, hk⟩ : ∃ k, k = bs.length := ⟨_, rfl⟩
  have hrl : r.length = k + 8 := by rw [← hr, List.length_append, numBs_len, hk]
  have hxr : r.take k = bs := by rw [← hr, hk, List.take_left]
  have hrg : ∀ j, j < 8 → r[k + j]? = some (UInt8.ofNat (numI n j).toNat) := fun j hj => by
    rw [← hr, List.getElem?_append_right (by omega), show k + j - bs.length = j by omega]; exact numBs_get n hj
  clear hr
  obtain ⟨S, hS⟩ : ∃ S : LI (Nat × Option (Nat × List UInt8)), S = ⟨fun x => [(6, .int .i64 (7 - (x.1 : Int))), (5, rowB 0 x.2), (4, .nils), (1, .int .i64 n)], fun x => stB B [] x.2, fun x => x.1 ≤ 8 ∧ okB x.2 ∧ outB x.2 = r.take (k + x.1), fun x => 8 - x.1⟩ := ⟨_, rfl⟩
  cases bs with
  | nil =>
    rw [B.l.nil]
    cbv
    ((try cbv) <;> (repeat ((with_reducible refine EW.of ?_); cbv)))
    refine TW.loopM A (T0_ok hP) S _ rfl (0, none) ?_ ?_ ?_
    · rw [hS]; exact ⟨Nat.zero_le _, trivial, hxr.symm⟩
    · rw [hS]
      cbv
      (repeat (first | exact trivial | refine And.intro (Emb.Pur _ _) ?_ | refine And.intro rfl ?_))
    rintro ⟨j, o⟩ hj l1 L1 e1 e2
    rw [hS] at hj e1 e2
    dsimp only at hj e1 e2
    obtain ⟨hj, hok, hout⟩ := hj
    obtain ⟨i, hi⟩ : ∃ i : Int, i = 7 - (j : Int) := ⟨_, rfl⟩
    rw [← hi] at e1
    subst e1
    cases o with
    | none =>
      dsimp only [stB, rowB, outB, okB] at e2 hok hout ⊢
      subst e2
      cbv
      ((try cbv) <;> (repeat ((with_reducible refine EW.of ?_); cbv)))
      refine bsplit (fun h => ?_) (fun h => ?_)
      · have h : (0 : Int) ≤ i := le_t h rfl rfl
        have hj8 : j < 8 := i7_lt hi h
        have hel := num_opR A n hj8
        have he0 := num_opR0 A hj8
        rw [← hi] at hel he0
        have hgj : r[k + j]? = some (UInt8.ofNat (numI n j).toNat) := hrg j hj8
        generalize UInt8.ofNat (numI n j).toNat = b at hel hgj
        have htk : r.take (k + j + 1) = r.take (k + j) ++ [b] := by rw [List.take_add_one, hgj]; rfl
        ((try cbv) <;> (repeat ((with_reducible refine EW.of ?_); cbv)))
        refine ⟨he0, ?_⟩
        ((try cbv) <;> (repeat ((with_reducible refine EW.of ?_); cbv)))
        have hes : AV.int .u8 (A.wrap .u8 (A.op .shr .u64 (A.wrap .u64 n) (A.wrap .u64 (A.op .mul .i64 8 i)))) = B.l.v b := by rw [B.ok, hel]
        obtain ⟨l1, hl1⟩ : ∃ d, d = [] ++ [b] := ⟨_, rfl⟩
        obtain ⟨q1, hq1⟩ : ∃ q, q = l1.length := ⟨_, rfl⟩
        rw [← hout, ← hl1] at htk
        have hq2 : q1 = k + j + 1 := by rw [hq1, ← htk, List.length_take]; omega
        refine ⟨⟨rfl⟩, q1, B.l.l l1, by rw [hq1, hl1]; rfl, by rw [hl1, List.nil_append, B.l.cons, B.l.nil, ← hes]; rfl, Nat.zero_le _, ?_, ?_, ?_⟩
        · rw [hq1, hl1]; simp
        · rw [hq1, hl1]; simp
        cbv
        ((try cbv) <;> (repeat ((with_reducible refine EW.of ?_); cbv)))
        refine LM.of (j + 1, some (q1, l1)) rfl ?_ ?_ ?_
        · rw [hS]; exact ⟨by show j + 1 ≤ 8; omega, hq1, htk.symm⟩
        · rw [hS]; show 8 - (j + 1) < 8 - j; omega
        · rw [hS]
          cbv
          (repeat (first | exact trivial | refine And.intro (Emb.Pur _ _) ?_ | refine And.intro (i7_dec A hi hj8) ?_ | refine And.intro rfl ?_))
      · have h : i < 0 := le_f h rfl rfl
        have hj8 : 8 ≤ j := i7_ge hi h
        exfalso
        have := congrArg List.length hout
        simp at this
        omega
    | some x =>
      obtain ⟨m, l⟩ := x
      dsimp only [stB, rowB, outB, okB] at e2 hok hout ⊢
      have hll := B.l.len l
      have hlj : l.length ≤ k + 8 := by rw [hout, List.length_take]; omega
      subst e2
      cbv
      ((try cbv) <;> (repeat ((with_reducible refine EW.of ?_); cbv)))
      refine bsplit (fun h => ?_) (fun h => ?_)
      · have h : (0 : Int) ≤ i := le_t h rfl rfl
        have hj8 : j < 8 := i7_lt hi h
        have hel := num_opR A n hj8
        have he0 := num_opR0 A hj8
        rw [← hi] at hel he0
        have hgj : r[k + j]? = some (UInt8.ofNat (numI n j).toNat) := hrg j hj8
        generalize UInt8.ofNat (numI n j).toNat = b at hel hgj
        have htk : r.take (k + j + 1) = r.take (k + j) ++ [b] := by rw [List.take_add_one, hgj]; rfl
        ((try cbv) <;> (repeat ((with_reducible refine EW.of ?_); cbv)))
        refine ⟨he0, ?_⟩
        ((try cbv) <;> (repeat ((with_reducible refine EW.of ?_); cbv)))
        have hes : AV.int .u8 (A.wrap .u8 (A.op .shr .u64 (A.wrap .u64 n) (A.wrap .u64 (A.op .mul .i64 8 i)))) = B.l.v b := by rw [B.ok, hel]
        obtain ⟨l1, hl1⟩ : ∃ d, d = l ++ [b] := ⟨_, rfl⟩
        obtain ⟨q1, hq1⟩ : ∃ q, q = l1.length := ⟨_, rfl⟩
        rw [← hout, ← hl1] at htk
        have hq2 : q1 = k + j + 1 := by rw [hq1, ← htk, List.length_take]; omega
        have hq3 : q1 = m + 1 := by rw [hq1, hl1, hok]; simp
        refine ⟨⟨rfl⟩, q1, B.l.l l1, hq3, by rw [hl1, B.l.app, B.l.cons, B.l.nil, ← hes, List.take_of_length_le (show (B.l.l l).length ≤ m by omega)], (show m ≤ (B.l.l l).length by omega), by omega, by omega, ?_⟩
        cbv
        ((try cbv) <;> (repeat ((with_reducible refine EW.of ?_); cbv)))
        refine LM.of (j + 1, some (q1, l1)) rfl ?_ ?_ ?_
        · rw [hS]; exact ⟨by show j + 1 ≤ 8; omega, hq1, htk.symm⟩
        · rw [hS]; show 8 - (j + 1) < 8 - j; omega
        · rw [hS]
          cbv
          (repeat (first | exact trivial | refine And.intro (Emb.Pur _ _) ?_ | refine And.intro (i7_dec A hi hj8) ?_ | refine And.intro rfl ?_))
      · have h : i < 0 := le_f h rfl rfl
        have hj8 : 8 ≤ j := i7_ge hi h
        obtain rfl : l = r := by rw [hout, List.take_of_length_le (by omega)]
        ((try cbv) <;> (repeat ((with_reducible refine EW.of ?_); cbv)))
        obtain rfl : m = q := by omega
        refine R1.of ?_
        cbv
        (repeat (first | exact trivial | refine And.intro (Emb.Pur _ _) ?_ | refine And.intro rfl ?_))
  | cons b0 bt =>
    have hne : B.l.l (b0 :: bt) ≠ [] := fun e => by have := B.l.len (b0 :: bt); rw [e] at this; cases this
    have hsc := B.scal (b0 :: bt)
    have hll := B.l.len (b0 :: bt)
    generalize hbs : b0 :: bt = bs at *
    cbv
    ((try cbv) <;> (repeat ((with_reducible refine EW.of ?_); cbv)))
    refine msplit (fun he => absurd he hne) (fun a al he => ?_)
    have he2 : a :: al = B.l.l bs := he.symm
    refine ⟨⟨by rw [he2]; exact hsc.h⟩, k, B.l.l bs, by rw [he2, hll, Nat.zero_add, hk], by rw [he2]; rfl, Nat.zero_le _, by show k * 1 ≤ _; omega, by omega, ?_⟩
    cbv
    ((try cbv) <;> (repeat ((with_reducible refine EW.of ?_); cbv)))
    refine TW.loopM A (T0_ok hP) S _ rfl (0, some (k, bs)) ?_ ?_ ?_
    · rw [hS]; exact ⟨Nat.zero_le _, hk, hxr.symm⟩
    · rw [hS]
      cbv
      (repeat (first | exact trivial | refine And.intro (Emb.Pur _ _) ?_ | refine And.intro rfl ?_))
    rintro ⟨j, o⟩ hj l1 L1 e1 e2
    rw [hS] at hj e1 e2
    dsimp only at hj e1 e2
    obtain ⟨hj, hok, hout⟩ := hj
    obtain ⟨i, hi⟩ : ∃ i : Int, i = 7 - (j : Int) := ⟨_, rfl⟩
    rw [← hi] at e1
    subst e1
    cases o with
    | none =>
      dsimp only [stB, rowB, outB, okB] at e2 hok hout ⊢
      subst e2
      cbv
      ((try cbv) <;> (repeat ((with_reducible refine EW.of ?_); cbv)))
      refine bsplit (fun h => ?_) (fun h => ?_)
      · have h : (0 : Int) ≤ i := le_t h rfl rfl
        have hj8 : j < 8 := i7_lt hi h
        have hel := num_opR A n hj8
        have he0 := num_opR0 A hj8
        rw [← hi] at hel he0
        have hgj : r[k + j]? = some (UInt8.ofNat (numI n j).toNat) := hrg j hj8
        generalize UInt8.ofNat (numI n j).toNat = b at hel hgj
        have htk : r.take (k + j + 1) = r.take (k + j) ++ [b] := by rw [List.take_add_one, hgj]; rfl
        ((try cbv) <;> (repeat ((with_reducible refine EW.of ?_); cbv)))
        refine ⟨he0, ?_⟩
        ((try cbv) <;> (repeat ((with_reducible refine EW.of ?_); cbv)))
        have hes : AV.int .u8 (A.wrap .u8 (A.op .shr .u64 (A.wrap .u64 n) (A.wrap .u64 (A.op .mul .i64 8 i)))) = B.l.v b := by rw [B.ok, hel]
        obtain ⟨l1, hl1⟩ : ∃ d, d = [] ++ [b] := ⟨_, rfl⟩
        obtain ⟨q1, hq1⟩ : ∃ q, q = l1.length := ⟨_, rfl⟩
        rw [← hout, ← hl1] at htk
        have hq2 : q1 = k + j + 1 := by rw [hq1, ← htk, List.length_take]; omega
        refine ⟨⟨rfl⟩, q1, B.l.l l1, by rw [hq1, hl1]; rfl, by rw [hl1, List.nil_append, B.l.cons, B.l.nil, ← hes]; rfl, Nat.zero_le _, ?_, ?_, ?_⟩
        · rw [hq1, hl1]; simp
        · rw [hq1, hl1]; simp
        cbv
        ((try cbv) <;> (repeat ((with_reducible refine EW.of ?_); cbv)))
        refine LM.of (j + 1, some (q1, l1)) rfl ?_ ?_ ?_
        · rw [hS]; exact ⟨by show j + 1 ≤ 8; omega, hq1, htk.symm⟩
        · rw [hS]; show 8 - (j + 1) < 8 - j; omega
        · rw [hS]
          cbv
          (repeat (first | exact trivial | refine And.intro (Emb.Pur _ _) ?_ | refine And.intro (i7_dec A hi hj8) ?_ | refine And.intro rfl ?_))
      · have h : i < 0 := le_f h rfl rfl
        have hj8 : 8 ≤ j := i7_ge hi h
        exfalso
        have := congrArg List.length hout
        simp at this
        omega
    | some x =>
      obtain ⟨m, l⟩ := x
      dsimp only [stB, rowB, outB, okB] at e2 hok hout ⊢
      have hll := B.l.len l
      have hlj : l.length ≤ k + 8 := by rw [hout, List.length_take]; omega
      subst e2
      cbv
      ((try cbv) <;> (repeat ((with_reducible refine EW.of ?_); cbv)))
      refine bsplit (fun h => ?_) (fun h => ?_)
      · have h : (0 : Int) ≤ i := le_t h rfl rfl
        have hj8 : j < 8 := i7_lt hi h
        have hel := num_opR A n hj8
        have he0 := num_opR0 A hj8
        rw [← hi] at hel he0
        have hgj : r[k + j]? = some (UInt8.ofNat (numI n j).toNat) := hrg j hj8
        generalize UInt8.ofNat (numI n j).toNat = b at hel hgj
        have htk : r.take (k + j + 1) = r.take (k + j) ++ [b] := by rw [List.take_add_one, hgj]; rfl
        ((try cbv) <;> (repeat ((with_reducible refine EW.of ?_); cbv)))
        refine ⟨he0, ?_⟩
        ((try cbv) <;> (repeat ((with_reducible refine EW.of ?_); cbv)))
        have hes : AV.int .u8 (A.wrap .u8 (A.op .shr .u64 (A.wrap .u64 n) (A.wrap .u64 (A.op .mul .i64 8 i)))) = B.l.v b := by rw [B.ok, hel]
        obtain ⟨l1, hl1⟩ : ∃ d, d = l ++ [b] := ⟨_, rfl⟩
        obtain ⟨q1, hq1⟩ : ∃ q, q = l1.length := ⟨_, rfl⟩
        rw [← hout, ← hl1] at htk
        have hq2 : q1 = k + j + 1 := by rw [hq1, ← htk, List.length_take]; omega
        have hq3 : q1 = m + 1 := by rw [hq1, hl1, hok]; simp
        refine ⟨⟨rfl⟩, q1, B.l.l l1, hq3, by rw [hl1, B.l.app, B.l.cons, B.l.nil, ← hes, List.take_of_length_le (show (B.l.l l).length ≤ m by omega)], (show m ≤ (B.l.l l).length by omega), by omega, by omega, ?_⟩
        cbv
        ((try cbv) <;> (repeat ((with_reducible refine EW.of ?_); cbv)))
        refine LM.of (j + 1, some (q1, l1)) rfl ?_ ?_ ?_
        · rw [hS]; exact ⟨by show j + 1 ≤ 8; omega, hq1, htk.symm⟩
        · rw [hS]; show 8 - (j + 1) < 8 - j; omega
        · rw [hS]
          cbv
          (repeat (first | exact trivial | refine And.intro (Emb.Pur _ _) ?_ | refine And.intro (i7_dec A hi hj8) ?_ | refine And.intro rfl ?_))
      · have h : i < 0 := le_f h rfl rfl
        have hj8 : 8 ≤ j := i7_ge hi h
        obtain rfl : l = r := by rw [hout, List.take_of_length_le (by omega)]
        ((try cbv) <;> (repeat ((with_reducible refine EW.of ?_); cbv)))
        obtain rfl : m = q := by omega
        refine R1.of ?_
        cbv
        (repeat (first | exact trivial | refine And.intro (Emb.Pur _ _) ?_ | refine And.intro rfl ?_))
theorem Number11 (A : Ar) (B : EmB) {P : Program} (hP : P = Try.prog) (bs : List UInt8) (hl : bs.length ≤ 500000000) (n : Int) (r : List UInt8) (hr : bs ++ numBs n = r) : TPure P 11 [.sl 1 (B.l.l bs), .int .i64 n] (.sl 1 (B.l.l r)) :=
  B.frz rfl (Number11r A B hP bs hl n r hr _ rfl)
theorem Text13 (A : Ar) (B : EmB) {P : Program} (hP : P = Try.prog) (bs : List UInt8) (hl : bs.length ≤ 400000000) (s : ByteArray) (hs : s.size ≤ 100000000) (r : List UInt8) (hr : bs ++ (numBs s.size ++ s.data.toList) = r) : TPure P 13 [.sl 1 (B.l.l bs), .str s] (.sl 1 (B.l.l r)) := by
  have hrl := app_len hr
  rw [text_len] at hrl
  have h8 := numBs_len (A.slen s)
  obtain ⟨q, hq⟩ : ∃ q, q = r.length := ⟨_, rfl⟩
  obtain ⟨r8, hr8⟩ : ∃ r8, bs ++ numBs (A.slen s) = r8 := ⟨_, rfl⟩
  obtain ⟨q8, hq8⟩ : ∃ q8, q8 = r8.length := ⟨_, rfl⟩
  have h11 := Number11r A B hP bs (by omega) (A.slen s) r8 hr8 q8 hq8
  have hl8 := app_len hr8
  rw [h8] at hl8
  have hr2 : r = r8 ++ s.data.toList := by rw [← hr8, A.ok_slen, List.append_assoc, hr]
  have hbl := B.l.len r8
  clear hr8 h8 hr
  refine TPure.ofE A T0 (T0_ok hP) (hP ▸ Try.func13) rfl _ rfl (by simp) ?_
  cbv
  ((try cbv) <;> (repeat ((with_reducible refine EW.of ?_); cbv)))
  refine ⟨Ent.of (hP ▸ Try.func11) rfl, ?_⟩
  refine TC1.call [] h11 ?_
  cbv
  (repeat (first | exact trivial | refine And.intro (Emb.Pur _ _) ?_ | refine And.intro rfl ?_))
  ((try cbv) <;> (repeat ((with_reducible refine EW.of ?_); cbv)))
  refine ⟨q, B.l.l r, by show q = q8 + s.size; omega, by rw [List.take_of_length_le (by omega), hr2, B.l.app, B.bytes s.data.toList], by omega, by omega, ?_⟩
  cbv
  ((try cbv) <;> (repeat ((with_reducible refine EW.of ?_); cbv)))
  exact And.intro (B.l.cut hq) (And.intro (B.l.Pur _) trivial)
set_option maxHeartbeats 4000000 in
theorem Node15 (A : Ar) (E : Em) (B : EmB) {P : Program} (hP : P = Try.prog) : ∀ (sz : Nat) (t : Tree), SizeOf.sizeOf t ≤ sz → ∀ (xs r : List UInt8), xs ++ nodeBs t = r → r.length ≤ 100000000 →
    TPure P 15 [.sl 1 (B.l.l xs), E.tree.v t] (.sl 1 (B.l.l r)) := by
  intro sz
  induction sz with
  | zero =>
    rintro ⟨i, k, s, ks⟩ hsz
    have : 0 < SizeOf.sizeOf (Tree.node i k s ks) := by simp only [Tree.node.sizeOf_spec]; omega
    omega
  | succ sz ih =>
  rintro ⟨i, k, s, ks⟩ hsz xs r hr hb
  rw [E.node]
  have hek := E.tree.len ks
  have hlk : A.len (E.tree.l ks) = (ks.length : Int) := by rw [A.ok_len, hek]
  rw [nodeBs] at hr
  have hrl := app_len hr
  have htx : s.data.toList.length = s.size := by rw [Array.length_toList]; rfl
  simp only [List.length_append, numBs_len, htx] at hrl
  have hge := nodesBs_ge ks
  obtain ⟨x1, hx1⟩ : ∃ x1, xs ++ numBs i = x1 := ⟨_, rfl⟩
  obtain ⟨x2, hx2⟩ : ∃ x2, x1 ++ numBs k = x2 := ⟨_, rfl⟩
  obtain ⟨x3, hx3⟩ : ∃ x3, x2 ++ (numBs s.size ++ s.data.toList) = x3 := ⟨_, rfl⟩
  obtain ⟨x4, hx4⟩ : ∃ x4, x3 ++ numBs (A.len (E.tree.l ks)) = x4 := ⟨_, rfl⟩
  rw [← List.append_assoc, hx1, ← List.append_assoc, hx2, ← List.append_assoc, hx3, ← List.append_assoc] at hr
  have hx4' : x3 ++ numBs (ks.length : Int) = x4 := by rw [← hx4, hlk]
  rw [hx4'] at hr
  have hl1 := app_len hx1
  have hl2 := app_len hx2
  have hl3 := app_len hx3
  have hl4 := app_len hx4
  rw [numBs_len] at hl1 hl2 hl4
  rw [text_len] at hl3
  have hl5 := app_len hr
  have c1 := Number11 A B hP xs (by omega) i x1 hx1
  have c2 := Number11 A B hP x1 (by omega) k x2 hx2
  have c3 := Text13 A B hP x2 (by omega) s (by omega) x3 hx3
  have c4 := Number11 A B hP x3 (by omega) (A.len (E.tree.l ks)) x4 hx4
  clear hx1 hx2 hx3 hx4 hx4'
  refine TPure.ofE A T0 (T0_ok hP) (hP ▸ Try.func15) rfl _ rfl (by simp) ?_
  cbv
  refine EW.vs [(4, .nils), (3, .imm [.int .i64 i, .int .i64 k, .str s, .sl 4 (E.tree.l ks)]), (0, .sl 1 (B.l.l xs))] [] 38 rfl ?_
  cbv
  (repeat (first | exact trivial | refine And.intro (Emb.Pur _ _) ?_ | refine And.intro rfl ?_ | refine And.intro (Pur.mk (by (repeat (first | exact rfl | exact Emb.purL _ _ | assumption | apply pur_cons | apply pur_sl | apply pur_slt | apply pur_agg | apply pur_tup)))) ?_))
  ((try cbv) <;> (repeat ((with_reducible refine EW.of ?_); cbv)))
  (refine ⟨Ent.of (hP ▸ Try.func11) rfl, ?_⟩; refine TC.pureE c1 ?_; cbv; (repeat (first | exact trivial | refine And.intro (Emb.Pur _ _) ?_ | refine And.intro rfl ?_ | refine And.intro (Pur.mk rfl) ?_ | refine And.intro (Pur.mk (by assumption)) ?_)); ((try cbv) <;> (repeat ((with_reducible refine EW.of ?_); cbv))))
  (refine ⟨Ent.of (hP ▸ Try.func11) rfl, ?_⟩; refine TC.pureE c2 ?_; cbv; (repeat (first | exact trivial | refine And.intro (Emb.Pur _ _) ?_ | refine And.intro rfl ?_ | refine And.intro (Pur.mk rfl) ?_ | refine And.intro (Pur.mk (by assumption)) ?_)); ((try cbv) <;> (repeat ((with_reducible refine EW.of ?_); cbv))))
  (refine ⟨Ent.of (hP ▸ Try.func13) rfl, ?_⟩; refine TC.pureE c3 ?_; cbv; (repeat (first | exact trivial | refine And.intro (Emb.Pur _ _) ?_ | refine And.intro rfl ?_ | refine And.intro (Pur.mk rfl) ?_ | refine And.intro (Pur.mk (by assumption)) ?_)); ((try cbv) <;> (repeat ((with_reducible refine EW.of ?_); cbv))))
  (refine ⟨Ent.of (hP ▸ Try.func11) rfl, ?_⟩; refine TC.pureE c4 ?_; cbv; (repeat (first | exact trivial | refine And.intro (Emb.Pur _ _) ?_ | refine And.intro rfl ?_ | refine And.intro (Pur.mk rfl) ?_ | refine And.intro (Pur.mk (by assumption)) ?_)); ((try cbv) <;> (repeat ((with_reducible refine EW.of ?_); cbv))))
  clear c1 c2 c3 c4
  obtain ⟨S, hS⟩ : ∃ S : LI (Nat × List UInt8), S = ⟨fun x => [(5, .int .i64 x.1), (4, .nils), (3, .imm [.int .i64 i, .int .i64 k, .str s, .sl 4 (E.tree.l ks)]), (0, .sl 1 (B.l.l x.2))], fun x => [], fun x => x.1 ≤ ks.length ∧ x.2 = x4 ++ nodesBs (ks.take x.1), fun x => ks.length - x.1⟩ := ⟨_, rfl⟩
  refine TW.loopM A (T0_ok hP) S _ rfl (0, x4) ?_ ?_ ?_
  · rw [hS]; exact ⟨Nat.zero_le _, by rw [List.take_zero, nodesBs, List.append_nil]⟩
  · rw [hS]
    cbv
    (repeat (first | exact trivial | refine And.intro (Emb.Pur _ _) ?_ | refine And.intro rfl ?_))
  rintro ⟨j, l⟩ hj l1 L1 e1 e2
  rw [hS] at hj e1 e2
  dsimp only at hj e1 e2
  obtain ⟨hj, hl⟩ := hj
  subst e1 e2
  cbv
  ((try cbv) <;> (repeat ((with_reducible refine EW.of ?_); cbv)))
  refine bsplit (fun h => ?_) (fun h => ?_)
  · have h : j < ks.length := lt_nt h rfl hlk
    obtain ⟨t', ht⟩ : ∃ t', ks[j]? = some t' := ⟨_, List.getElem?_eq_getElem h⟩
    have hmem := List.mem_of_getElem? ht
    have hsz' := Tree.kid_lt (i := i) (k := k) (s := s) hmem
    have hnx := nodesBs_take ht
    obtain ⟨l2, hl2⟩ : ∃ l2, l ++ nodeBs t' = l2 := ⟨_, rfl⟩
    have hl2' : l2 = x4 ++ nodesBs (ks.take (j + 1)) := by rw [hnx, ← List.append_assoc, ← hl, hl2]
    have hle := nodesBs_le ks (j + 1)
    have hlen2 : l2.length = x4.length + (nodesBs (ks.take (j + 1))).length := by rw [hl2', List.length_append]
    have hrec := ih t' (by omega) l l2 hl2 (by omega)
    have hget := E.tree.get ht
    obtain ⟨i', k', s', ks'⟩ := t'
    rw [E.node] at hget hrec
    ((try cbv) <;> (repeat ((with_reducible refine EW.of ?_); cbv)))
    refine ⟨j, _, rfl, hget, ?_⟩
    cbv
    ((try cbv) <;> (repeat ((with_reducible refine EW.of ?_); cbv)))
    (refine ⟨Ent.of (hP ▸ Try.func15) rfl, ?_⟩; refine TC.pureE hrec ?_; cbv; (repeat (first | exact trivial | refine And.intro (Emb.Pur _ _) ?_ | refine And.intro rfl ?_ | refine And.intro (Pur.mk rfl) ?_ | refine And.intro (Pur.mk (by assumption)) ?_)); ((try cbv) <;> (repeat ((with_reducible refine EW.of ?_); cbv))))
    refine LM.of (j + 1, l2) rfl ?_ ?_ ?_
    · rw [hS]; exact ⟨by show j + 1 ≤ ks.length; omega, hl2'⟩
    · rw [hS]; show ks.length - (j + 1) < ks.length - j; omega
    · rw [hS]
      cbv
      (repeat (first | exact trivial | refine And.intro (Emb.Pur _ _) ?_ | refine And.intro (inc_eq A (by omega)) ?_ | refine And.intro rfl ?_))
  · have h : ks.length ≤ j := lt_nf h rfl hlk
    obtain rfl : l = r := by rw [hl, List.take_of_length_le (by omega), hr]
    ((try cbv) <;> (repeat ((with_reducible refine EW.of ?_); cbv)))
    exact And.intro (B.l.Pur _) trivial
end Go.Proofs.Ytmbbdabcbnemiaa
