import Derived.Test.YtmbbdabcbnemiaaRf
/-! Numbers and texts behind bytes. -/
namespace Go.Proofs.Ytmbbdabcbnemiaa
open Go.Proofs.Ytmbbdabcbnemiaa.Tw
def stB2 (B : EmB) (xs : List UInt8) : Option (Nat × List UInt8) → Store
  | none => [some (.arr 1 (B.l.l xs))]
  | some (_, l) => [none, some (.arr 1 (B.l.l l))]
def rowB2 (k : Nat) : Option (Nat × List UInt8) → AV
  | none => .row 0 1 0 k
  | some (m, _) => .row 1 1 0 m
def outB2 (xs : List UInt8) : Option (Nat × List UInt8) → List UInt8
  | none => xs
  | some (_, l) => l
set_option maxHeartbeats 1000000 in
theorem number37r (A : Ar) (B : EmB) {P : Program} (hP : P = Try.prog) (xs : List UInt8) (k : Nat) (hk : k = xs.length) (n : Int) (r : List UInt8) (hr : xs ++ numBs n = r) (q : Nat) (hq : q = r.length) (hb : q ≤ 1000000000) : TC1 P 37 [.row 0 1 0 k, .int .i64 n] [some (.arr 1 (B.l.l xs))] (.row 1 1 0 q) [none, some (.arr 1 (B.l.l r))] := by
  refine TC1.of A _ _ T0 (T0_ok hP) (hP ▸ Try.func37) rfl _ rfl (by simp) ?_
  have hrl : r.length = k + 8 := by rw [← hr, List.length_append, numBs_len, hk]
  have hxr : r.take k = xs := by rw [← hr, hk, List.take_left]
  have hrg : ∀ j, j < 8 → r[k + j]? = some (UInt8.ofNat (numI n j).toNat) := fun j hj => by
    rw [← hr, List.getElem?_append_right (by omega), show k + j - xs.length = j by omega]; exact numBs_get n hj
  clear hr
  have hbx := B.l.len xs
  cbv
  ((try cbv) <;> (repeat ((with_reducible refine EW.of ?_); cbv)))
  obtain ⟨S, hS⟩ : ∃ S : LI (Nat × Option (Nat × List UInt8)), S = ⟨fun x => [(6, .int .i64 x.1), (4, .nils), (0, rowB2 k x.2), (1, .int .i64 n)], fun x => stB2 B xs x.2, fun x => x.1 ≤ 8 ∧ okB x.2 ∧ outB2 xs x.2 = r.take (k + x.1), fun x => 8 - x.1⟩ := ⟨_, rfl⟩
  refine TW.loopM A (T0_ok hP) S _ rfl (0, none) ?_ ?_ ?_
  · rw [hS]; exact ⟨Nat.zero_le _, trivial, hxr.symm⟩
  · rw [hS]
    cbv
    (repeat (first | exact trivial | refine And.intro (Emb.Pur _ _) ?_ | refine And.intro rfl ?_))
  rintro ⟨j, o⟩ hj l1 L1 e1 e2
  rw [hS] at hj e1 e2
  dsimp only at hj e1 e2
  obtain ⟨hj, hok, hout⟩ := hj
  subst e1
  cases o with
  | none =>
    dsimp only [stB2, rowB2, outB2, okB] at e2 hok hout ⊢
    obtain ⟨cur, hcur⟩ : ∃ c, c = xs := ⟨_, rfl⟩
    obtain ⟨curn, hcn⟩ : ∃ c, c = k := ⟨_, rfl⟩
    have hcl : cur.length = curn := by rw [hcur, hcn, hk]
    rw [← hcur] at hout
    rw [← hcur] at e2
    rw [← hcn]
    subst e2
    cbv
    ((try cbv) <;> (repeat ((with_reducible refine EW.of ?_); cbv)))
    refine bsplit (fun h => ?_) (fun h => ?_)
    · have h : j < 8 := lt_nt (j := 8) h rfl rfl
      have hel := num_op A n h
      have hgj : r[k + j]? = some (UInt8.ofNat (numI n j).toNat) := hrg j h
      generalize UInt8.ofNat (numI n j).toNat = b at hel hgj
      have htk : r.take (k + j + 1) = r.take (k + j) ++ [b] := by rw [List.take_add_one, hgj]; rfl
      ((try cbv) <;> (repeat ((with_reducible refine EW.of ?_); cbv)))
      refine ⟨by show 0 ≤ A.op .sub .i64 56 (A.op .mul .i64 8 (j : Int)); rw [sh_op A h]; omega, ?_⟩
      ((try cbv) <;> (repeat ((with_reducible refine EW.of ?_); cbv)))
      have hes : AV.int .u8 (A.wrap .u8 (A.op .shr .u64 (A.wrap .u64 n) (A.op .sub .i64 56 (A.op .mul .i64 8 (j : Int))))) = B.l.v b := by rw [B.ok, hel]
      obtain ⟨l1, hl1⟩ : ∃ d, d = cur ++ [b] := ⟨_, rfl⟩
      obtain ⟨q1, hq1⟩ : ∃ q, q = l1.length := ⟨_, rfl⟩
      rw [← hout, ← hl1] at htk
      have hq2 : q1 = k + j + 1 := by rw [hq1, ← htk, List.length_take]; omega
      have hq3 : q1 = curn + 1 := by rw [hq1, hl1, List.length_append, hcl]; rfl
      refine ⟨⟨rfl⟩, q1, B.l.l l1, hq3, by rw [hl1, B.l.app, B.l.cons, B.l.nil, ← hes, List.take_of_length_le (show (B.l.l cur).length ≤ curn by rw [B.l.len]; omega)]; rfl, (show curn ≤ (B.l.l cur).length by rw [B.l.len]; omega), by omega, by omega, ?_⟩
      cbv
      ((try cbv) <;> (repeat ((with_reducible refine EW.of ?_); cbv)))
      refine LM.of (j + 1, some (q1, l1)) rfl ?_ ?_ ?_
      · rw [hS]; exact ⟨by show j + 1 ≤ 8; omega, hq1, htk.symm⟩
      · rw [hS]; show 8 - (j + 1) < 8 - j; omega
      · rw [hS]
        cbv
        (repeat (first | exact trivial | refine And.intro (Emb.Pur _ _) ?_ | refine And.intro (inc_eq A (by omega)) ?_ | refine And.intro rfl ?_))
    · have h : 8 ≤ j := lt_nf (j := 8) h rfl rfl
      exfalso
      have := congrArg List.length hout
      rw [List.length_take] at this
      omega
  | some x =>
    obtain ⟨curn, cur⟩ := x
    dsimp only [stB2, rowB2, outB2, okB] at e2 hok hout ⊢
    have hcl : cur.length = curn := hok.symm
    subst e2
    cbv
    ((try cbv) <;> (repeat ((with_reducible refine EW.of ?_); cbv)))
    refine bsplit (fun h => ?_) (fun h => ?_)
    · have h : j < 8 := lt_nt (j := 8) h rfl rfl
      have hel := num_op A n h
      have hgj : r[k + j]? = some (UInt8.ofNat (numI n j).toNat) := hrg j h
      generalize UInt8.ofNat (numI n j).toNat = b at hel hgj
      have htk : r.take (k + j + 1) = r.take (k + j) ++ [b] := by rw [List.take_add_one, hgj]; rfl
      ((try cbv) <;> (repeat ((with_reducible refine EW.of ?_); cbv)))
      refine ⟨by show 0 ≤ A.op .sub .i64 56 (A.op .mul .i64 8 (j : Int)); rw [sh_op A h]; omega, ?_⟩
      ((try cbv) <;> (repeat ((with_reducible refine EW.of ?_); cbv)))
      have hes : AV.int .u8 (A.wrap .u8 (A.op .shr .u64 (A.wrap .u64 n) (A.op .sub .i64 56 (A.op .mul .i64 8 (j : Int))))) = B.l.v b := by rw [B.ok, hel]
      obtain ⟨l1, hl1⟩ : ∃ d, d = cur ++ [b] := ⟨_, rfl⟩
      obtain ⟨q1, hq1⟩ : ∃ q, q = l1.length := ⟨_, rfl⟩
      rw [← hout, ← hl1] at htk
      have hq2 : q1 = k + j + 1 := by rw [hq1, ← htk, List.length_take]; omega
      have hq3 : q1 = curn + 1 := by rw [hq1, hl1, List.length_append, hcl]; rfl
      refine ⟨⟨rfl⟩, q1, B.l.l l1, hq3, by rw [hl1, B.l.app, B.l.cons, B.l.nil, ← hes, List.take_of_length_le (show (B.l.l cur).length ≤ curn by rw [B.l.len]; omega)]; rfl, (show curn ≤ (B.l.l cur).length by rw [B.l.len]; omega), by omega, by omega, ?_⟩
      cbv
      ((try cbv) <;> (repeat ((with_reducible refine EW.of ?_); cbv)))
      refine LM.of (j + 1, some (q1, l1)) rfl ?_ ?_ ?_
      · rw [hS]; exact ⟨by show j + 1 ≤ 8; omega, hq1, htk.symm⟩
      · rw [hS]; show 8 - (j + 1) < 8 - j; omega
      · rw [hS]
        cbv
        (repeat (first | exact trivial | refine And.intro (Emb.Pur _ _) ?_ | refine And.intro (inc_eq A (by omega)) ?_ | refine And.intro rfl ?_))
    · have h : 8 ≤ j := lt_nf (j := 8) h rfl rfl
      obtain rfl : cur = r := by rw [hout, List.take_of_length_le (by omega)]
      obtain rfl : curn = q := by omega
      ((try cbv) <;> (repeat ((with_reducible refine EW.of ?_); cbv)))
      refine R1.of ?_
      cbv
      (repeat (first | exact trivial | refine And.intro (Emb.Pur _ _) ?_ | refine And.intro rfl ?_))
theorem text39r (A : Ar) (B : EmB) {P : Program} (hP : P = Try.prog) (xs : List UInt8) (k : Nat) (hk : k = xs.length) (s : ByteArray) (r : List UInt8) (hr : xs ++ (numBs s.size ++ s.data.toList) = r) (q : Nat) (hq : q = r.length) (hb : q ≤ 1000000000) : TC1 P 39 [.row 0 1 0 k, .str s] [some (.arr 1 (B.l.l xs))] (.row 1 1 0 q) [none, some (.arr 1 (B.l.l r))] := by
  refine TC1.of A _ _ T0 (T0_ok hP) (hP ▸ Try.func39) rfl _ rfl (by simp) ?_
  have h8 := numBs_len (A.slen s)
  obtain ⟨r8, hr8⟩ : ∃ r8, r8 = xs ++ numBs (A.slen s) := ⟨_, rfl⟩
  obtain ⟨q8, hq8⟩ : ∃ q8, q8 = r8.length := ⟨_, rfl⟩
  have hl8 : q8 = k + 8 := by rw [hq8, hr8, List.length_append, h8, hk]
  have hrl : r.length = k + (8 + s.size) := by
    rw [A.ok_slen] at h8
    rw [← hr, List.length_append, List.length_append, h8, Array.length_toList, hk]; rfl
  have h37 := number37r A B hP xs k hk (A.slen s) r8 hr8.symm q8 hq8 (by omega)
  have hr2 : r = r8 ++ s.data.toList := by rw [hr8, A.ok_slen, List.append_assoc, hr]
  have hbl := B.l.len r8
  clear hr8 h8 hr
  cbv
  ((try cbv) <;> (repeat ((with_reducible refine EW.of ?_); cbv)))
  refine ⟨Ent.of (hP ▸ Try.func37) rfl, ?_⟩
  refine TC1.call [0] h37 ?_
  cbv
  (repeat (first | exact trivial | refine And.intro (Emb.Pur _ _) ?_ | refine And.intro rfl ?_))
  ((try cbv) <;> (repeat ((with_reducible refine EW.of ?_); cbv)))
  refine ⟨q, B.l.l r, by show q = q8 + s.size; omega, by rw [List.take_of_length_le (by omega), hr2, B.l.app, B.bytes s.data.toList], by omega, by omega, ?_⟩
  cbv
  ((try cbv) <;> (repeat ((with_reducible refine EW.of ?_); cbv)))
  refine R1.of ?_
  cbv
  (repeat (first | exact trivial | refine And.intro (Emb.Pur _ _) ?_ | refine And.intro rfl ?_))
end Go.Proofs.Ytmbbdabcbnemiaa
