import Derived.Test.YtmbbdabcbnemiaaRj
/-! A reader's small numbers, counts and texts. -/
namespace Go.Proofs.Ytmbbdabcbnemiaa
open Go.Proofs.Ytmbbdabcbnemiaa.Tw
theorem numR_ok {A : Ar} {bs : List UInt8} {a a2 : Nat} {n : Int} (h : numR A bs a = .ok n a2) : a2 = a + 8 ∧ a2 ≤ bs.length := by
  unfold numR at h
  cases ht : takeR bs a 8 with
  | ok l a3 =>
    rw [ht] at h
    cases h
    exact ⟨(takeR_ok ht).2.1, (takeR_ok ht).2.2⟩
  | no e a3 => rw [ht] at h; cases h
theorem numR_no {A : Ar} {bs : List UInt8} {a a2 : Nat} {e : Int} (h : numR A bs a = .no e a2) : e = bs.length ∧ a2 = a := by
  unfold numR at h
  cases ht : takeR bs a 8 with
  | ok l a3 => rw [ht] at h; cases h
  | no e a3 => rw [ht] at h; cases h; exact takeR_no ht
def smallR (A : Ar) (bs : List UInt8) (a : Nat) : RR Int := (takeR bs a 1).bind fun l a => .ok (A.wrap .i8 (l.headD 0).toNat) a
theorem small46 (A : Ar) (B : EmB) {P : Program} (hP : P = Try.prog) (bs : List UInt8) (hl : bs.length ≤ 1000000000) (a : Nat) (ha : a ≤ bs.length) (bad : Int) :
    TCX P 46 [.ref 0 3 0 0] [some (rdr B bs a bad)] ((smallR A bs a).fin fun n => .int .i8 n) [some (rdr B bs (smallR A bs a).pos bad)] := by
  have h62 := take62 A B hP bs hl a ha bad 1 (by omega)
  unfold smallR
  have hln : ∀ l a2, takeR bs a 1 = .ok l a2 → l.length = 1 := fun l a2 h => (takeR_ok h).1
  generalize takeR bs a 1 = r at h62 hln
  cases r with
  | no e a2 =>
    show TCX P 46 [.ref 0 3 0 0] [some (rdr B bs a bad)] (.pan (failAV e)) [some (rdr B bs a2 bad)]
    replace h62 : TCX P 62 _ _ (.pan (failAV e)) [some (rdr B bs a2 bad)] := h62
    unfold rdr failAV at *
    refine TCX.of A _ _ T0 (T0_ok hP) (hP ▸ Try.func46) rfl _ rfl (by simp) ?_
    cbv
    ((try cbv) <;> (repeat ((with_reducible refine EW.of ?_); cbv)))
    refine ⟨Ent.of (hP ▸ Try.func62) rfl, ?_⟩
    refine TCX.call [0] h62 ?_
    cbv
    (repeat (first | exact trivial | refine And.intro (Emb.Pur _ _) ?_ | refine And.intro rfl ?_))
    refine R1.of ?_
    cbv
    (repeat (first | exact trivial | refine And.intro (Emb.Pur _ _) ?_ | refine And.intro rfl ?_))
  | ok l a2 =>
    have h1 := hln l a2 rfl
    obtain ⟨b, rfl⟩ : ∃ b, l = [b] := by
      match l, h1 with
      | [b], _ => exact ⟨b, rfl⟩
    show TCX P 46 [.ref 0 3 0 0] [some (rdr B bs a bad)] (.ret (.int .i8 (A.wrap .i8 b.toNat))) [some (rdr B bs a2 bad)]
    replace h62 : TCX P 62 _ _ (.ret (.sl 1 (B.l.l [b]))) [some (rdr B bs a2 bad)] := h62
    have hget : (B.l.l [b])[0]? = some (.int .u8 b.toNat) := B.get rfl
    generalize [b] = l at h62 hget
    unfold rdr at *
    refine TCX.of A _ _ T0 (T0_ok hP) (hP ▸ Try.func46) rfl _ rfl (by simp) ?_
    cbv
    ((try cbv) <;> (repeat ((with_reducible refine EW.of ?_); cbv)))
    refine ⟨Ent.of (hP ▸ Try.func62) rfl, ?_⟩
    refine TCX.call [0] h62 ?_
    cbv
    (repeat (first | exact trivial | refine And.intro (Emb.Pur _ _) ?_ | refine And.intro rfl ?_))
    ((try cbv) <;> (repeat ((with_reducible refine EW.of ?_); cbv)))
    refine ⟨0, _, rfl, hget, ?_⟩
    cbv
    ((try cbv) <;> (repeat ((with_reducible refine EW.of ?_); cbv)))
    refine R1.of ?_
    cbv
    (repeat (first | exact trivial | refine And.intro (Emb.Pur _ _) ?_ | refine And.intro rfl ?_))
/-- Whether so many can't follow. -/
def countB (A : Ar) (len a2 : Int) (n size most : Int) : Bool := if A.lt n 0 then true else if A.lt most n then true else A.lt (A.op .quo .i64 (A.op .sub .i64 len a2) (A.mx size 1)) n
def countR (A : Ar) (bs : List UInt8) (a : Nat) (size most : Int) : RR Int := (numR A bs a).bind fun n a2 => if countB A bs.length a2 n size most then .no a a2 else .ok n a2
set_option maxHeartbeats 1000000 in
theorem count55 (A : Ar) (B : EmB) {P : Program} (hP : P = Try.prog) (bs : List UInt8) (hl : bs.length ≤ 1000000000) (a : Nat) (ha : a ≤ bs.length) (bad : Int) (size most : Int) :
    TCX P 55 [.ref 0 3 0 0, .int .i64 size, .int .i64 most] [some (rdr B bs a bad)] ((countR A bs a size most).fin fun n => .int .i64 n) [some (rdr B bs (countR A bs a size most).pos bad)] := by
  have h43 := number43 A B hP bs hl a ha bad
  have hbl : A.len (B.l.l bs) = (bs.length : Int) := by rw [A.ok_len, B.l.len]
  unfold countR
  generalize numR A bs a = r at h43
  cases r with
  | no e a2 =>
    show TCX P 55 [.ref 0 3 0 0, .int .i64 size, .int .i64 most] [some (rdr B bs a bad)] (.pan (failAV e)) [some (rdr B bs a2 bad)]
    replace h43 : TCX P 43 _ _ (.pan (failAV e)) [some (rdr B bs a2 bad)] := h43
    unfold rdr failAV at *
    refine TCX.of A _ _ T0 (T0_ok hP) (hP ▸ Try.func55) rfl _ rfl (by simp) ?_
    cbv
    ((try cbv) <;> (repeat ((with_reducible refine EW.of ?_); cbv)))
    refine ⟨Ent.of (hP ▸ Try.func43) rfl, ?_⟩
    refine TCX.call [0] h43 ?_
    cbv
    (repeat (first | exact trivial | refine And.intro (Emb.Pur _ _) ?_ | refine And.intro rfl ?_))
    refine R1.of ?_
    cbv
    (repeat (first | exact trivial | refine And.intro (Emb.Pur _ _) ?_ | refine And.intro rfl ?_))
  | ok n a2 =>
    obtain ⟨x, M, hxM⟩ : ∃ (x : AEnd) (M : Int), x = (if countB A bs.length a2 n size most then AEnd.pan (failAV a) else .ret (.int .i64 n)) ∧ M = a2 := ⟨_, _, rfl, rfl⟩
    have hg : TCX P 55 [.ref 0 3 0 0, .int .i64 size, .int .i64 most] [some (rdr B bs a bad)] x [some (rdr B bs a2 bad)] := by
      have hx := hxM.1
      clear hxM
      replace h43 : TCX P 43 _ _ (.ret (.int .i64 n)) [some (rdr B bs a2 bad)] := h43
      unfold rdr failAV at *
      unfold countB at hx
      rw [← hbl] at hx
      refine TCX.of A _ _ T0 (T0_ok hP) (hP ▸ Try.func55) rfl _ rfl (by simp) ?_
      cbv
      ((try cbv) <;> (repeat ((with_reducible refine EW.of ?_); cbv)))
      refine ⟨Ent.of (hP ▸ Try.func43) rfl, ?_⟩
      refine TCX.call [0] h43 ?_
      cbv
      (repeat (first | exact trivial | refine And.intro (Emb.Pur _ _) ?_ | refine And.intro rfl ?_))
      ((try cbv) <;> (repeat ((with_reducible refine EW.of ?_); cbv)))
      have hmx : A.mx size 1 ≠ 0 := by
        rw [A.ok_mx]
        split <;> omega
      obtain ⟨q3, hq3⟩ : ∃ b, b = A.lt (A.op .quo .i64 (A.op .sub .i64 (A.len (B.l.l bs)) (a2 : Int)) (A.mx size 1)) n := ⟨_, rfl⟩
      rw [← hq3] at hx
      (refine TW.draw (A := A) (T0_ok hP) (hP ▸ follows_mixed) (by kernel_rfl) rfl ?_; cbv)
      refine bsplit (fun h1 => ?_) (fun h1 => ?_)
      · rw [if_pos h1, if_pos rfl] at hx
        subst hx
        cbv
        ((try cbv) <;> (repeat ((with_reducible refine EW.of ?_); cbv)))
        refine R1.of ?_
        cbv
        (repeat (first | exact trivial | refine And.intro (Emb.Pur _ _) ?_ | refine And.intro rfl ?_))
      rw [if_neg (show ¬ A.lt n 0 = true by rw [show A.lt n 0 = false from h1]; decide)] at hx
      cbv
      refine bsplit (fun h2 => ?_) (fun h2 => ?_)
      · rw [if_pos h2, if_pos rfl] at hx
        subst hx
        cbv
        ((try cbv) <;> (repeat ((with_reducible refine EW.of ?_); cbv)))
        refine R1.of ?_
        cbv
        (repeat (first | exact trivial | refine And.intro (Emb.Pur _ _) ?_ | refine And.intro rfl ?_))
      rw [if_neg (show ¬ A.lt most n = true by rw [show A.lt most n = false from h2]; decide)] at hx
      cbv
      refine ⟨hmx, ?_⟩
      cbv
      ((try cbv) <;> (repeat ((with_reducible refine EW.of ?_); cbv)))
      refine bsplit (fun h3 => ?_) (fun h3 => ?_)
      · have h3 : q3 = true := hq3.trans h3
        rw [if_pos h3] at hx
        subst hx
        cbv
        ((try cbv) <;> (repeat ((with_reducible refine EW.of ?_); cbv)))
        refine R1.of ?_
        cbv
        (repeat (first | exact trivial | refine And.intro (Emb.Pur _ _) ?_ | refine And.intro rfl ?_))
      have h3 : q3 = false := hq3.trans h3
      rw [if_neg (by rw [h3]; decide)] at hx
      subst hx
      cbv
      ((try cbv) <;> (repeat ((with_reducible refine EW.of ?_); cbv)))
      refine R1.of ?_
      cbv
      (repeat (first | exact trivial | refine And.intro (Emb.Pur _ _) ?_ | refine And.intro rfl ?_))
    cases hc : countB A bs.length a2 n size most with
    | true =>
      rw [hxM.1, hc, if_pos rfl] at hg
      simp only [RR.bind, hc, if_true]
      exact hg
    | false =>
      rw [hxM.1, hc, if_neg (by decide)] at hg
      simp only [RR.bind, hc]
      exact hg
theorem countB_no {A : Ar} {len a2 : Nat} {n size most : Int} (hl : len ≤ 1000000000) (ha : a2 ≤ len) (h : countB A len a2 n size most = false) : 0 ≤ n ∧ n ≤ most ∧ n * max size 1 ≤ ((len - a2 : Nat) : Int) := by
  unfold countB at h
  split at h
  · cases h
  rename_i h1
  split at h
  · cases h
  rename_i h2
  rw [A.ok_lt] at h1 h2 h
  simp only [decide_eq_true_eq, decide_eq_false_iff_not] at h1 h2 h
  rw [sub_i64 rfl rfl (by omega) (by omega), show (len : Int) - (a2 : Int) = ((len - a2 : Nat) : Int) by omega, A.ok_quo, A.ok_mx] at h
  have hm : (if 1 > size then (1 : Int) else size) = max size 1 := by
    by_cases hs : 1 > size
    · rw [if_pos hs, Int.max_eq_right (by omega)]
    · rw [if_neg hs, Int.max_eq_left (by omega)]
  rw [hm] at h
  have hm1 : (1 : Int) ≤ max size 1 := Int.le_max_right _ _
  generalize max size 1 = m at h hm1 ⊢
  have hq : (((len - a2 : Nat) : Int)).tdiv m = ((len - a2 : Nat) : Int) / m := Int.tdiv_eq_ediv_of_nonneg (by omega)
  have hq0 : 0 ≤ ((len - a2 : Nat) : Int) / m := Int.ediv_nonneg (by omega) (by omega)
  have hq1 : ((len - a2 : Nat) : Int) / m ≤ ((len - a2 : Nat) : Int) := Int.ediv_le_self _ (by omega)
  rw [hq, wrap_i64 (by omega) (by omega)] at h
  refine ⟨by omega, by omega, ?_⟩
  exact (Int.le_ediv_iff_mul_le (by omega)).1 (by omega)
theorem countR_ok {A : Ar} {bs : List UInt8} {a a2 : Nat} {n size most : Int} (hl : bs.length ≤ 1000000000) (h : countR A bs a size most = .ok n a2) : a2 = a + 8 ∧ a2 ≤ bs.length ∧ 0 ≤ n ∧ n ≤ most ∧ n * max size 1 ≤ ((bs.length - a2 : Nat) : Int) := by
  unfold countR at h
  cases hn : numR A bs a with
  | no e a3 => rw [hn] at h; cases h
  | ok m a3 =>
    rw [hn] at h
    obtain ⟨h1, h2⟩ := numR_ok hn
    simp only [RR.bind] at h
    split at h
    · cases h
    rename_i hc
    cases h
    exact ⟨h1, h2, countB_no hl h2 (by simpa using hc)⟩
theorem countR_no {A : Ar} {bs : List UInt8} {a a2 : Nat} {e size most : Int} (h : countR A bs a size most = .no e a2) : (e = bs.length ∧ a2 = a) ∨ (e = a ∧ a2 = a + 8 ∧ a2 ≤ bs.length) := by
  unfold countR at h
  cases hn : numR A bs a with
  | no e a3 => rw [hn] at h; cases h; exact .inl (numR_no hn)
  | ok m a3 =>
    rw [hn] at h
    obtain ⟨h1, h2⟩ := numR_ok hn
    simp only [RR.bind] at h
    split at h
    · cases h; exact .inr ⟨rfl, h1, h2⟩
    · cases h
def textR (A : Ar) (bs : List UInt8) (a : Nat) : RR ByteArray := (countR A bs a 1 bs.length).bind fun n a2 => (takeR bs a2 n.toNat).bind fun l a3 => .ok ⟨⟨l⟩⟩ a3
set_option maxHeartbeats 1000000 in
theorem text48 (A : Ar) (B : EmB) {P : Program} (hP : P = Try.prog) (bs : List UInt8) (hl : bs.length ≤ 1000000000) (a : Nat) (ha : a ≤ bs.length) (bad : Int) :
    TCX P 48 [.ref 0 3 0 0] [some (rdr B bs a bad)] ((textR A bs a).fin fun s => .str s) [some (rdr B bs (textR A bs a).pos bad)] := by
  have hbl : A.len (B.l.l bs) = (bs.length : Int) := by rw [A.ok_len, B.l.len]
  have h55 := count55 A B hP bs hl a ha bad 1 (A.len (B.l.l bs))
  rw [hbl] at h55
  unfold textR
  have hco : ∀ n a2, countR A bs a 1 bs.length = .ok n a2 → a2 ≤ bs.length ∧ 0 ≤ n ∧ n ≤ bs.length := fun n a2 h => by
    have := countR_ok hl h
    exact ⟨this.2.1, this.2.2.1, this.2.2.2.1⟩
  generalize countR A bs a 1 bs.length = r at h55 hco
  rw [← hbl] at h55
  cases r with
  | no e a2 =>
    show TCX P 48 [.ref 0 3 0 0] [some (rdr B bs a bad)] (.pan (failAV e)) [some (rdr B bs a2 bad)]
    replace h55 : TCX P 55 _ _ (.pan (failAV e)) [some (rdr B bs a2 bad)] := h55
    unfold rdr failAV at *
    refine TCX.of A _ _ T0 (T0_ok hP) (hP ▸ Try.func48) rfl _ rfl (by simp) ?_
    cbv
    ((try cbv) <;> (repeat ((with_reducible refine EW.of ?_); cbv)))
    refine ⟨Ent.of (hP ▸ Try.func55) rfl, ?_⟩
    refine TCX.call [0] h55 ?_
    cbv
    (repeat (first | exact trivial | refine And.intro (Emb.Pur _ _) ?_ | refine And.intro rfl ?_))
    refine R1.of ?_
    cbv
    (repeat (first | exact trivial | refine And.intro (Emb.Pur _ _) ?_ | refine And.intro rfl ?_))
  | ok n a2 =>
    obtain ⟨c1, c2, c3⟩ := hco n a2 rfl
    obtain ⟨m, rfl⟩ : ∃ m : Nat, n = m := ⟨n.toNat, by omega⟩
    have h62 := take62 A B hP bs hl a2 c1 bad m (by omega)
    replace h55 : TCX P 55 _ _ (.ret (.int .i64 (m : Int))) [some (rdr B bs a2 bad)] := h55
    simp only [RR.bind, Int.toNat_natCast]
    generalize takeR bs a2 m = r2 at h62
    cases r2 with
    | no e a3 =>
      show TCX P 48 [.ref 0 3 0 0] [some (rdr B bs a bad)] (.pan (failAV e)) [some (rdr B bs a3 bad)]
      replace h62 : TCX P 62 _ _ (.pan (failAV e)) [some (rdr B bs a3 bad)] := h62
      unfold rdr failAV at *
      refine TCX.of A _ _ T0 (T0_ok hP) (hP ▸ Try.func48) rfl _ rfl (by simp) ?_
      cbv
      ((try cbv) <;> (repeat ((with_reducible refine EW.of ?_); cbv)))
      refine ⟨Ent.of (hP ▸ Try.func55) rfl, ?_⟩
      refine TCX.call [0] h55 ?_
      cbv
      (repeat (first | exact trivial | refine And.intro (Emb.Pur _ _) ?_ | refine And.intro rfl ?_))
      ((try cbv) <;> (repeat ((with_reducible refine EW.of ?_); cbv)))
      refine ⟨Ent.of (hP ▸ Try.func62) rfl, ?_⟩
      refine TCX.call [0] h62 ?_
      cbv
      (repeat (first | exact trivial | refine And.intro (Emb.Pur _ _) ?_ | refine And.intro rfl ?_))
      refine R1.of ?_
      cbv
      (repeat (first | exact trivial | refine And.intro (Emb.Pur _ _) ?_ | refine And.intro rfl ?_))
    | ok l a3 =>
      show TCX P 48 [.ref 0 3 0 0] [some (rdr B bs a bad)] (.ret (.str ⟨⟨l⟩⟩)) [some (rdr B bs a3 bad)]
      replace h62 : TCX P 62 _ _ (.ret (.sl 1 (B.l.l l))) [some (rdr B bs a3 bad)] := h62
      unfold rdr at *
      refine TCX.of A _ _ T0 (T0_ok hP) (hP ▸ Try.func48) rfl _ rfl (by simp) ?_
      cbv
      ((try cbv) <;> (repeat ((with_reducible refine EW.of ?_); cbv)))
      refine ⟨Ent.of (hP ▸ Try.func55) rfl, ?_⟩
      refine TCX.call [0] h55 ?_
      cbv
      (repeat (first | exact trivial | refine And.intro (Emb.Pur _ _) ?_ | refine And.intro rfl ?_))
      ((try cbv) <;> (repeat ((with_reducible refine EW.of ?_); cbv)))
      refine ⟨Ent.of (hP ▸ Try.func62) rfl, ?_⟩
      refine TCX.call [0] h62 ?_
      cbv
      (repeat (first | exact trivial | refine And.intro (Emb.Pur _ _) ?_ | refine And.intro rfl ?_))
      ((try cbv) <;> (repeat ((with_reducible refine EW.of ?_); cbv)))
      refine ⟨l, B.bytes l, ?_⟩
      cbv
      ((try cbv) <;> (repeat ((with_reducible refine EW.of ?_); cbv)))
      refine R1.of ?_
      cbv
      (repeat (first | exact trivial | refine And.intro (Emb.Pur _ _) ?_ | refine And.intro rfl ?_))
end Go.Proofs.Ytmbbdabcbnemiaa
