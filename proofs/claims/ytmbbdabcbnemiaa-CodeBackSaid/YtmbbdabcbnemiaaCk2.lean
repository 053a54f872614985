import Derived.Test.YtmbbdabcbnemiaaCk1
import Derived.Test.YtmbbdabcbnemiaaTw10
/-! A reader's small numbers, counts and texts. -/
namespace Go.Proofs.Ytmbbdabcbnemiaa
open Go.Proofs.Ytmbbdabcbnemiaa.Tw
theorem numR_ok {A : Ar} {bs : List UInt8} {a a2 : Nat} {n : Int} (h : numR A bs a = .ok n a2) : a2 = a + 8 ∧ a2 ≤ bs.length := by
  unfold numR at h
  cases ht : takeR bs a 8 with
  | ok l a3 =>
    rw [ht] at h
    cases h
    exact ⟨(takeR_ok ht).2.1, (takeR_ok ht).2.2⟩
  | no e a3 => rw [ht] at h; cases h
theorem numR_no {A : Ar} {bs : List UInt8} {a a2 : Nat} {e : Int} (h : numR A bs a = .no e a2) : e = bs.length ∧ a2 = a := by
  unfold numR at h
  cases ht : takeR bs a 8 with
  | ok l a3 => rw [ht] at h; cases h
  | no e a3 => rw [ht] at h; cases h; exact takeR_no ht
def smallR (A : Ar) (bs : List UInt8) (a : Nat) : RR Int := (takeR bs a 1).bind fun l a => .ok (A.wrap .i8 (l.headD 0).toNat) a
theorem small46 (A : Ar) (B : EmB) {P : Program} (hP : P = Try.prog) (bs : List UInt8) (hl : bs.length ≤ 1000000000) (a : Nat) (ha : a ≤ bs.length) (bad : Int) :
    TCX P 46 [.ref 0 3 0 0] [some (rdr B bs a bad)] ((smallR A bs a).fin fun n => .int .i8 n) [some (rdr B bs (smallR A bs a).pos bad)] := by
  have h62 := take62 A B hP bs hl a ha bad 1 (by omega)
  unfold smallR
  have hln : ∀ l a2, takeR bs a 1 = .ok l a2 → l.length = 1 := fun l a2 h => (takeR_ok h).1
  generalize takeR bs a 1 = r at h62 hln
  cases r with
  | no e a2 =>
    show TCX P 46 [.ref 0 3 0 0] [some (rdr B bs a bad)] (.pan (failAV e)) [some (rdr B bs a2 bad)]
    replace h62 : TCX P 62 _ _ (.pan (failAV e)) [some (rdr B bs a2 bad)] := h62
    unfold rdr failAV at *
    refine TCX.of A _ _ T0 (T0_ok hP) (hP ▸ Try.func46) rfl _ rfl (by simp) ?_
    cbv
    ((try cbv) <;> (repeat ((with_reducible refine EW.of ?_); cbv)))
    refine ⟨Ent.of (hP ▸ Try.func62) rfl, ?_⟩
    refine TCX.call [0] h62 ?_
    cbv
    (repeat (first | exact trivial | refine And.intro (Emb.Pur _ _) ?_ | refine And.intro rfl ?_))
    refine R1.of ?_
    cbv
    (repeat (first | exact trivial | refine And.intro (Emb.Pur _ _) ?_ | refine And.intro rfl ?_))
  | ok l a2 =>
    have h1 := hln l a2 rfl
    obtain ⟨b, rfl⟩ : ∃ b, l = [b] := by
      match l, h1 with
      | [b], _ => exact ⟨b, rfl⟩
    show TCX P 46 [.ref 0 3 0 0] [some (rdr B bs a bad)] (.ret (.int .i8 (A.wrap .i8 b.toNat))) [some (rdr B bs a2 bad)]
    replace h62 : TCX P 62 _ _ (.ret (.sl 1 (B.l.l [b]))) [some (rdr B bs a2 bad)] := h62
    have hget : (B.l.l [b])[0]? = some (.int .u8 b.toNat) := B.get rfl
    generalize [b] = l at h62 hget
    unfold rdr at *
    refine TCX.of A _ _ T0 (T0_ok hP) (hP ▸ Try.func46) rfl _ rfl (by simp) ?_
    cbv
    ((try cbv) <;> (repeat ((with_reducible refine EW.of ?_); cbv)))
    refine ⟨Ent.of (hP ▸ Try.func62) rfl, ?_⟩
    refine TCX.call [0] h62 ?_
    cbv
    (repeat (first | exact trivial | refine And.intro (Emb.Pur _ _) ?_ | refine And.intro rfl ?_))
    ((try cbv) <;> (repeat ((with_reducible refine EW.of ?_); cbv)))
    refine ⟨0, _, rfl, hget, ?_⟩
    cbv
    ((try cbv) <;> (repeat ((with_reducible refine EW.of ?_); cbv)))
    refine R1.of ?_
    cbv
    (repeat (first | exact trivial | refine And.intro (Emb.Pur _ _) ?_ | refine And.intro rfl ?_))
/-- Whether so many can't follow. -/
def countB (A : Ar) (len a2 : Int) (n size most : Int) : Bool := if A.lt n 0 then true else if A.lt most n then true else A.lt (A.op .quo .i64 (A.op .sub .i64 len a2) (A.mx size 1)) n
def countR (A : Ar) (bs : List UInt8) (a : Nat) (size most : Int) : RR Int := (numR A bs a).bind fun n a2 => if countB A bs.length a2 n size most then .no a a2 else .ok n a2
set_option maxHeartbeats 1000000 in
theorem count55 (A : Ar) (B : EmB) {P : Program} (hP : P = Try.prog) (bs : List UInt8) (hl : bs.length ≤ 1000000000) (a : Nat) (ha : a ≤ bs.length) (bad : Int) (size most : Int) :
    TCX P 55 [.ref 0 3 0 0, .int .i64 size, .int .i64 most] [some (rdr B bs a bad)] ((countR A bs a size most).fin fun n => .int .i64 n) [some (rdr B bs (countR A bs a size most).pos bad)] := by
  have h43 := number43 A B hP bs hl a ha bad
  have hbl : A.len (B.l.l bs) = (bs.length : Int) := by rw [A.ok_len, B.l.len]
  unfold countR
  generalize numR A bs a = r at h43
  cases r with
  | no e a2 =>
    show TCX P 55 [.ref 0 3 0 0, .int .i64 size, .int .i64 most] [some (rdr B bs a bad)] (.pan (failAV e)) [some (rdr B bs a2 bad)]
    replace h43 : TCX P 43 _ _ (.pan (failAV e)) [some (rdr B bs a2 bad)] := h43
    unfold rdr failAV at *
    refine TCX.of A _ _ T0 (T0_ok hP) (hP ▸ Try.func55) rfl _ rfl (by simp) ?_
    cbv
    ((try cbv) <;> (repeat ((with_reducible refine EW.of ?_); cbv)))
    refine ⟨Ent.of (hP ▸ Try.func43) rfl, ?_⟩
    refine TCX.call [0] h43 ?_
    cbv
    (repeat (first | exact trivial | refine And.intro (Emb.Pur _ _) ?_ | refine And.intro rfl ?_))
    refine R1.of ?_
    cbv
    (repeat (first | exact trivial | refine And.intro (Emb.Pur _ _) ?_ | refine And.intro rfl ?_))
  | ok n a2 =>
    obtain ⟨x, M, hxM⟩ : ∃ (x : AEnd) (M : Int), x = (if countB A bs.length a2 n size most then AEnd.pan (failAV a) else .ret (.int .i64 n)) ∧ M = a2 := ⟨_, _, rfl, rfl⟩
    have hg : TCX P 55 [.ref 0 3 0 0, .int .i64 size, .int .i64 most] [some (rdr B bs a bad)] x [some (rdr B bs a2 bad)] := by
      have hx := hxM.1
      clear hxM
      replace h43 : TCX P 43 _ _ (.ret (.int .i64 n)) [some (rdr B bs a2 bad)] := h43
      unfold rdr failAV at *
      unfold countB at hx
      rw [← hbl] at hx
      refine TCX.of A _ _ T0 (T0_ok hP) (hP ▸ Try.func55) rfl _ rfl (by simp) ?_
      cbv
      ((try cbv) <;> (repeat ((with_reducible refine EW.of ?_); cbv)))
      refine ⟨Ent.of (hP ▸ Try.func43) rfl, ?_⟩
      refine TCX.call [0] h43 ?_
      cbv
      (repeat (first | exact trivial | refine And.intro (Emb.Pur _ _) ?_ | refine And.intro rfl ?_))
      ((try cbv) <;> (repeat ((with_reducible refine EW.of ?_); cbv)))
      have hmx : A.mx size 1 ≠ 0 := by
        rw [A.ok_mx]
        split <;> omega
      obtain ⟨q3, hq3⟩ : ∃ b, b = A.lt (A.op .quo .i64 (A.op .sub .i64 (A.len (B.l.l bs)) (a2 : Int)) (A.mx size 1)) n := ⟨_, rfl⟩
      rw [← hq3] at hx
      (refine TW.draw (A := A) (T0_ok hP) (hP ▸ follows_mixed) (by kernel_rfl) rfl ?_; cbv)
      refine bsplit (fun h1 => ?_) (fun h1 => ?_)
      · rw [if_pos h1, if_pos rfl] at hx
        subst hx
        cbv
        ((try cbv) <;> (repeat ((with_reducible refine EW.of ?_); cbv)))
        refine R1.of ?_
        cbv
        (repeat (first | exact trivial | refine And.intro (Emb.Pur _ _) ?_ | refine And.intro rfl ?_))
      rw [if_neg (show ¬ A.lt n 0 = true by rw [show A.lt n 0 = false from h1]; decide)] at hx
      cbv
      refine bsplit (fun h2 => ?_) (fun h2 => ?_)
      · rw [if_pos h2, if_pos rfl] at hx
        subst hx
        cbv
        ((try cbv) <;> (repeat ((with_reducible refine EW.of ?_); cbv)))
        refine R1.of ?_
        cbv
        (repeat (first | exact trivial | refine And.intro (Emb.Pur _ _) ?_ | refine And.intro rfl ?_))
      rw [if_neg (show ¬ A.lt most n = true by rw [show A.lt most n = false from h2]; decide)] at hx
      cbv
      refine ⟨hmx, ?_⟩
      cbv
      ((try cbv) <;> (repeat ((with_reducible refine EW.of ?_); cbv)))
      refine bsplit (fun h3 => ?_) (fun h3 => ?_)
      · have h3 : q3 = true := hq3.trans h3
        rw [if_pos h3] at hx
        subst hx
        cbv
        ((try cbv) <;> (repeat ((with_reducible refine EW.of ?_); cbv)))
        refine R1.of ?_
        cbv
        (repeat (first | exact trivial | refine And.intro (Emb.Pur _ _) ?_ | refine And.intro rfl ?_))
      have h3 : q3 = false := hq3.trans h3
      rw [if_neg (by rw [h3]; decide)] at hx
      subst hx
      cbv
      ((try cbv) <;> (repeat ((with_reducible refine EW.of ?_); cbv)))
      refine R1.of ?_
      cbv
      (repeat (first | exact trivial | refine And.intro (Emb.Pur _ _) ?_ | refine And.intro rfl ?_))
    cases hc : countB A bs.length a2 n size most with
    | true =>
      rw [hxM.1, hc, if_pos rfl] at hg
      simp only [RR.bind, hc, if_true]
      exact hg
    | false =>
      rw [hxM.1, hc, if_neg (by decide)] at hg
      simp only [RR.bind, hc]
      exact hg
theorem countB_no {A : Ar} {len a2 : Nat} {n size most : Int} (hl : len ≤ 1000000000) (ha : a2 ≤ len) (h : countB A len a2 n size most = false) : 0 ≤ n ∧ n ≤ most ∧ n * max size 1 ≤ ((len - a2 : Nat) : Int) := by
  unfold countB at h
  split at h
  · cases h
  rename_i h1
  split at h
  · cases h
  rename_i h2
  rw [A.ok_lt] at h1 h2 h
  simp only [decide_eq_true_eq, decide_eq_false_iff_not] at h1 h2 h
  rw [sub_i64 rfl rfl (by omega) (by omega), show (len : Int) - (a2 : Int) = ((len - a2 : Nat) : Int) by omega, A.ok_quo, A.ok_mx] at h
  have hm : (if 1 > size then (1 : Int) else size) = max size 1 := by
    by_cases hs : 1 > size
    · rw [if_pos hs, Int.max_eq_right (by omega)]
    · rw [if_neg hs, Int.max_eq_left (by omega)]
  rw [hm] at h
  have hm1 : (1 : Int) ≤ max size 1 := Int.le_max_right _ _
  generalize max size 1 = m at h hm1 ⊢
  have hq : (((len - a2 : Nat) : Int)).tdiv m = ((len - a2 : Nat) : Int) / m := Int.tdiv_eq_ediv_of_nonneg (by omega)
  have hq0 : 0 ≤ ((len - a2 : Nat) : Int) / m := Int.ediv_nonneg (by omega) (by omega)
  have hq1 : ((len - a2 : Nat) : Int) / m ≤ ((len - a2 : Nat) : Int) := Int.ediv_le_self _ (by omega)
  rw [hq, wrap_i64 (by omega) (by omega)] at h
  refine ⟨by omega, by omega, ?_⟩
  exact (Int.le_ediv_iff_mul_le (by omega)).1 (by omega)
theorem countR_ok {A : Ar} {bs : List UInt8} {a a2 : Nat} {n size most : Int} (hl : bs.length ≤ 1000000000) (h : countR A bs a size most = .ok n a2) : a2 = a + 8 ∧ a2 ≤ bs.length ∧ 0 ≤ n ∧ n ≤ most ∧ n * max size 1 ≤ ((bs.length - a2 : Nat) : Int) := by
  unfold countR at h
  cases hn : numR A bs a with
  | no e a3 => rw [hn] at h; cases h
  | ok m a3 =>
    rw [hn] at h
    obtain ⟨h1, h2⟩ := numR_ok hn
    simp only [RR.bind] at h
    split at h
    · cases h
    rename_i hc
    cases h
    exact ⟨h1, h2, countB_no hl h2 (by simpa using hc)⟩
theorem countR_no {A : Ar} {bs : List UInt8} {a a2 : Nat} {e size most : Int} (h : countR A bs a size most = .no e a2) : (e = bs.length ∧ a2 = a) ∨ (e = a ∧ a2 = a + 8 ∧ a2 ≤ bs.length) := by
  unfold countR at h
  cases hn : numR A bs a with
  | no e a3 => rw [hn] at h; cases h; exact .inl (numR_no hn)
  | ok m a3 =>
    rw [hn] at h
    obtain ⟨h1, h2⟩ := numR_ok hn
    simp only [RR.bind] at h
    split at h
    · cases h; exact .inr ⟨rfl, h1, h2⟩
    · cases h
def textR (A : Ar) (bs : List UInt8) (a : Nat) : RR ByteArray := (countR A bs a 1 bs.length).bind fun n a2 => (takeR bs a2 n.toNat).bind fun l a3 => .ok ⟨⟨l⟩⟩ a3
set_option maxHeartbeats 1000000 in
theorem text48 (A : Ar) (B : EmB) {P : Program} (hP : P = Try.prog) (bs : List UInt8) (hl : bs.length ≤ 1000000000) (a : Nat) (ha : a ≤ bs.length) (bad : Int) :
    TCX P 48 [.ref 0 3 0 0] [some (rdr B bs a bad)] ((textR A bs a).fin fun s => .str s) [some (rdr B bs (textR A bs a).pos bad)] := by
  have hbl : A.len (B.l.l bs) = (bs.length : Int) := by rw [A.ok_len, B.l.len]
  have h55 := count55 A B hP bs hl a ha bad 1 (A.len (B.l.l bs))
  rw [hbl] at h55
  unfold textR
  have hco : ∀ n a2, countR A bs a 1 bs.length = .ok n a2 → a2 ≤ bs.length ∧ 0 ≤ n ∧ n ≤ bs.length := fun n a2 h => by
    have := countR_ok hl h
    exact ⟨this.2.1, this.2.2.1, this.2.2.2.1⟩
  generalize countR A bs a 1 bs.length = r at h55 hco
  rw [← hbl] at h55
  cases r with
  | no e a2 =>
    show TCX P 48 [.ref 0 3 0 0] [some (rdr B bs a bad)] (.pan (failAV e)) [some (rdr B bs a2 bad)]
    replace h55 : TCX P 55 _ _ (.pan (failAV e)) [some (rdr B bs a2 bad)] := h55
    unfold rdr failAV at *
    refine TCX.of A _ _ T0 (T0_ok hP) (hP ▸ Try.func48) rfl _ rfl (by simp) ?_
    cbv
    ((try cbv) <;> (repeat ((with_reducible refine EW.of ?_); cbv)))
    refine ⟨Ent.of (hP ▸ Try.func55) rfl, ?_⟩
    refine TCX.call [0] h55 ?_
    cbv
    (repeat (first | exact trivial | refine And.intro (Emb.Pur _ _) ?_ | refine And.intro rfl ?_))
    refine R1.of ?_
    cbv
    (repeat (first | exact trivial | refine And.intro (Emb.Pur _ _) ?_ | refine And.intro rfl ?_))
  | ok n a2 =>
    obtain ⟨c1, c2, c3⟩ := hco n a2 rfl
    obtain ⟨m, rfl⟩ : ∃ m : Nat, n = m := ⟨n.toNat, by omega⟩
    have h62 := take62 A B hP bs hl a2 c1 bad m (by omega)
    replace h55 : TCX P 55 _ _ (.ret (.int .i64 (m : Int))) [some (rdr B bs a2 bad)] := h55
    simp only [RR.bind, Int.toNat_natCast]
    generalize takeR bs a2 m = r2 at h62
    cases r2 with
    | no e a3 =>
      show TCX P 48 [.ref 0 3 0 0] [some (rdr B bs a bad)] (.pan (failAV e)) [some (rdr B bs a3 bad)]
      replace h62 : TCX P 62 _ _ (.pan (failAV e)) [some (rdr B bs a3 bad)] := h62
      unfold rdr failAV at *
      refine TCX.of A _ _ T0 (T0_ok hP) (hP ▸ Try.func48) rfl _ rfl (by simp) ?_
      cbv
      ((try cbv) <;> (repeat ((with_reducible refine EW.of ?_); cbv)))
      refine ⟨Ent.of (hP ▸ Try.func55) rfl, ?_⟩
      refine TCX.call [0] h55 ?_
      cbv
      (repeat (first | exact trivial | refine And.intro (Emb.Pur _ _) ?_ | refine And.intro rfl ?_))
      ((try cbv) <;> (repeat ((with_reducible refine EW.of ?_); cbv)))
      refine ⟨Ent.of (hP ▸ Try.func62) rfl, ?_⟩
      refine TCX.call [0] h62 ?_
      cbv
      (repeat (first | exact trivial | refine And.intro (Emb.Pur _ _) ?_ | refine And.intro rfl ?_))
      refine R1.of ?_
      cbv
      (repeat (first | exact trivial | refine And.intro (Emb.Pur _ _) ?_ | refine And.intro rfl ?_))
    | ok l a3 =>
      show TCX P 48 [.ref 0 3 0 0] [some (rdr B bs a bad)] (.ret (.str ⟨⟨l⟩⟩)) [some (rdr B bs a3 bad)]
      replace h62 : TCX P 62 _ _ (.ret (.sl 1 (B.l.l l))) [some (rdr B bs a3 bad)] := h62
      unfold rdr at *
      refine TCX.of A _ _ T0 (T0_ok hP) (hP ▸ Try.func48) rfl _ rfl (by simp) ?_
      cbv
      ((try cbv) <;> (repeat ((with_reducible refine EW.of ?_); cbv)))
      refine ⟨Ent.of (hP ▸ Try.func55) rfl, ?_⟩
      refine TCX.call [0] h55 ?_
      cbv
      (repeat (first | exact trivial | refine And.intro (Emb.Pur _ _) ?_ | refine And.intro rfl ?_))
      ((try cbv) <;> (repeat ((with_reducible refine EW.of ?_); cbv)))
      refine ⟨Ent.of (hP ▸ Try.func62) rfl, ?_⟩
      refine TCX.call [0] h62 ?_
      cbv
      (repeat (first | exact trivial | refine And.intro (Emb.Pur _ _) ?_ | refine And.intro rfl ?_))
      ((try cbv) <;> (repeat ((with_reducible refine EW.of ?_); cbv)))
      refine ⟨l, B.bytes l, ?_⟩
      cbv
      ((try cbv) <;> (repeat ((with_reducible refine EW.of ?_); cbv)))
      refine R1.of ?_
      cbv
      (repeat (first | exact trivial | refine And.intro (Emb.Pur _ _) ?_ | refine And.intro rfl ?_))
end Go.Proofs.Ytmbbdabcbnemiaa

/-! A reader's nodes: rows of them. -/
namespace Go.Proofs.Ytmbbdabcbnemiaa
open Go.Proofs.Ytmbbdabcbnemiaa.Tw
/-- What reading nodes comes to: how many so far, and where. -/
inductive RN (α : Type) where
  | ok (v : α) (c a : Nat)
  | no (e : Int) (c a : Nat)
namespace RN
variable {α β : Type}
def fin (f : α → AV) : RN α → AEnd
  | .ok v _ _ => .ret (f v)
  | .no e _ _ => .pan (failAV e)
def pos : RN α → Nat
  | .ok _ _ a => a
  | .no _ _ a => a
def cnt : RN α → Nat
  | .ok _ c _ => c
  | .no _ c _ => c
def bind (r : RN α) (f : α → Nat → Nat → RN β) : RN β :=
  match r with
  | .ok v c a => f v c a
  | .no e c a => .no e c a
def pre (acc : List α) : RN (List α) → RN (List α)
  | .ok xs c a => .ok (acc ++ xs) c a
  | .no e c a => .no e c a
end RN
def RR.toN {α : Type} (r : RR α) (c : Nat) : RN α :=
  match r with
  | .ok v a => .ok v c a
  | .no e a => .no e c a
def listR {α : Type} (one : Nat → Nat → RN α) : Nat → Nat → Nat → RN (List α)
  | 0, c, a => .ok [] c a
  | n + 1, c, a => (one c a).bind fun x c a => (listR one n c a).bind fun xs c a => .ok (x :: xs) c a
theorem listR_ok {α : Type} {one : Nat → Nat → RN α} {n c a c2 a2 : Nat} {x : α} {acc : List α} (h : one c a = .ok x c2 a2) : (listR one (n + 1) c a).pre acc = (listR one n c2 a2).pre (acc ++ [x]) := by
  rw [listR, h]
  simp only [RN.bind]
  cases listR one n c2 a2 with
  | ok xs c3 a3 => simp [RN.pre]
  | no e c3 a3 => rfl
theorem listR_no {α : Type} {one : Nat → Nat → RN α} {n c a c2 a2 : Nat} {e : Int} {acc : List α} (h : one c a = .no e c2 a2) : (listR one (n + 1) c a).pre acc = .no e c2 a2 := by
  rw [listR, h]
  rfl
theorem RN.pre_nil {α : Type} (r : RN (List α)) : r.pre [] = r := by cases r <;> rfl
def fun66 : AV := .func (.func 66) [] [.ref 1 1 0 0, .ref 2 1 0 0, .ref 3 1 0 0]
def stN (B : EmB) (bs : List UInt8) (bad : Int) (c a : Nat) : Store := [some (rdr B bs a bad), some (.box 1 (.ref 0 3 0 0)), some (.box 1 (.int .i64 c)), some (.box 1 fun66)]
def fun68 (d : Int) : AV := .func (.func 68) [] [.ref 3 1 0 0, .imm [.int .i64 d]]
def rowT : Option (Nat × List Tree) → AV
  | none => .nils
  | some (m, _) => .row 4 4 0 m
def stT (E : Em) (L : Store) : Option (Nat × List Tree) → Store
  | none => L
  | some (_, l) => L ++ [some (.arr 4 (E.tree.l l))]
def outT : Option (Nat × List Tree) → List Tree
  | none => []
  | some (_, l) => l
def okT : Option (Nat × List Tree) → Prop
  | none => True
  | some (m, l) => m = l.length
set_option maxHeartbeats 2000000 in
theorem list67 (A : Ar) (E : Em) (B : EmB) {P : Program} (hP : P = Try.prog) (bs : List UInt8) (bad : Int) (d : Int) (one : Nat → Nat → RN Tree)
    (h68 : ∀ c a, c ≤ 200 → a ≤ bs.length → TCX P 68 [.ref 3 1 0 0, .imm [.int .i64 d]] (stN B bs bad c a) ((one c a).fin E.tree.v) (stN B bs bad (one c a).cnt (one c a).pos))
    (hgood : ∀ c a x c2 a2, c ≤ 200 → a ≤ bs.length → one c a = .ok x c2 a2 → c2 ≤ 200 ∧ a2 ≤ bs.length)
    (n : Nat) (hn : n ≤ 1000000000) (c a : Nat) (hc : c ≤ 200) (ha : a ≤ bs.length) (R : RN (List Tree)) (hR : listR one n c a = R) :
    TCX P 67 [.int .i64 n, fun68 d] (stN B bs bad c a) (R.fin fun ts => .sl 4 (E.tree.l ts)) (stN B bs bad R.cnt R.pos) := by
  obtain ⟨x, hx⟩ : ∃ x, x = R.fin fun ts => .sl 4 (E.tree.l ts) := ⟨_, rfl⟩
  obtain ⟨M, hM⟩ : ∃ M, M = stN B bs bad R.cnt R.pos := ⟨_, rfl⟩
  rw [← hx, ← hM]
  refine TCX.of A _ _ T0 (T0_ok hP) (hP ▸ Try.func67) rfl _ rfl (by simp) ?_
  unfold stN fun68 fun66 rdr
  cbv
  ((try cbv) <;> (repeat ((with_reducible refine EW.of ?_); cbv)))
  obtain ⟨S, hS⟩ : ∃ S : LI (Nat × Nat × Nat × Nat × Option (Nat × List Tree)), S = ⟨fun x => [(6, .int .i64 x.1), (5, .int .i64 n), (4, rowT x.2.2.2.2), (1, fun68 d)], fun x => stT E (stN B bs bad x.2.2.1 x.2.2.2.1) x.2.2.2.2, fun x => x.1 + x.2.1 = n ∧ x.2.2.1 ≤ 200 ∧ x.2.2.2.1 ≤ bs.length ∧ okT x.2.2.2.2 ∧ (outT x.2.2.2.2).length = x.1 ∧ R = (listR one x.2.1 x.2.2.1 x.2.2.2.1).pre (outT x.2.2.2.2), fun x => x.2.1⟩ := ⟨_, rfl⟩
  refine TW.loopM A (T0_ok hP) S _ rfl (0, n, c, a, none) ?_ ?_ ?_
  · rw [hS]; exact ⟨Nat.zero_add _, hc, ha, trivial, rfl, hR.symm.trans (RN.pre_nil _).symm⟩
  · rw [hS]
    cbv
    (repeat (first | exact trivial | refine And.intro (Emb.Pur _ _) ?_ | refine And.intro rfl ?_ | refine And.intro (Pur.mk rfl) ?_))
  rintro ⟨j, k, c1, a1, o⟩ hj l1 L1 e1 e2
  rw [hS] at hj e1 e2
  dsimp only at hj e1 e2
  obtain ⟨hj, hc1, ha1, hok, hlen, hinv⟩ := hj
  have h68' := h68 c1 a1 hc1 ha1
  have hg' := hgood c1 a1
  unfold stN fun66 rdr at h68'
  subst e1
  cases o with
  | none =>
    dsimp only [stT, rowT, outT, okT] at e2 hok hlen hinv ⊢
    subst e2
    unfold stN fun68 fun66 rdr
    cbv
    ((try cbv) <;> (repeat ((with_reducible refine EW.of ?_); cbv)))
    refine bsplit (fun h => ?_) (fun h => ?_)
    · have h : j < n := lt_nt h rfl rfl
      obtain ⟨k, rfl⟩ : ∃ k', k = k' + 1 := ⟨k - 1, by omega⟩
      ((try cbv) <;> (repeat ((with_reducible refine EW.of ?_); cbv)))
      refine ⟨Ent.of (hP ▸ Try.func68) rfl, ?_⟩
      cases hone : one c1 a1 with
      | no e c2 a2 =>
        rw [hone] at h68'
        replace h68' : TCX P 68 _ _ (.pan (failAV e)) [some (.box 3 (.agg [.sl 1 (B.l.l bs), .int .i64 a2, .int .i64 bad])), some (.box 1 (.ref 0 3 0 0)), some (.box 1 (.int .i64 c2)), some (.box 1 (.func (.func 66) [] [.ref 1 1 0 0, .ref 2 1 0 0, .ref 3 1 0 0]))] := h68'
        rw [listR_no hone] at hinv
        subst hinv
        replace hx : x = .pan (failAV e) := hx
        replace hM : M = [some (.box 3 (.agg [.sl 1 (B.l.l bs), .int .i64 a2, .int .i64 bad])), some (.box 1 (.ref 0 3 0 0)), some (.box 1 (.int .i64 c2)), some (.box 1 (.func (.func 66) [] [.ref 1 1 0 0, .ref 2 1 0 0, .ref 3 1 0 0]))] := hM
        unfold failAV at h68' hx
        subst hx hM
        refine TCX.call [0, 1, 2, 3] h68' ?_
        cbv
        (repeat (first | exact trivial | refine And.intro (Emb.Pur _ _) ?_ | refine And.intro rfl ?_ | refine And.intro (Pur.mk rfl) ?_))
        refine R1.of ?_
        cbv
        (repeat (first | exact trivial | refine And.intro (Emb.Pur _ _) ?_ | refine And.intro rfl ?_ | refine And.intro (Pur.mk rfl) ?_))
      | ok t' c2 a2 =>
        rw [hone] at h68'
        replace h68' : TCX P 68 _ _ (.ret (E.tree.v t')) [some (.box 3 (.agg [.sl 1 (B.l.l bs), .int .i64 a2, .int .i64 bad])), some (.box 1 (.ref 0 3 0 0)), some (.box 1 (.int .i64 c2)), some (.box 1 (.func (.func 66) [] [.ref 1 1 0 0, .ref 2 1 0 0, .ref 3 1 0 0]))] := h68'
        have hg2 := hg' t' c2 a2 hc1 ha1 hone
        rw [listR_ok hone] at hinv
        obtain ⟨pv, hpv⟩ : ∃ pv, E.tree.l [] = pv := ⟨_, rfl⟩
        obtain ⟨l1, hl1⟩ : ∃ d, d = [] ++ [t'] := ⟨_, rfl⟩
        rw [← hl1] at hinv
        obtain ⟨q1, hq1⟩ : ∃ q, q = l1.length := ⟨_, rfl⟩
        have hvl : E.tree.l l1 = pv ++ [E.tree.v t'] := by rw [hl1, E.tree.app, hpv, E.tree.cons, E.tree.nil]
        have hq2 : q1 = j + 1 := by rw [hq1, hl1, List.length_append]; show _ + 1 = _; omega
        obtain ⟨i', k', s', ks'⟩ := t'
        rw [E.node] at h68' hvl
        refine TCX.call [0, 1, 2, 3] h68' ?_
        cbv
        (repeat (first | exact trivial | refine And.intro (Emb.Pur _ _) ?_ | refine And.intro rfl ?_ | refine And.intro (Pur.mk rfl) ?_))
        ((try cbv) <;> (repeat ((with_reducible refine EW.of ?_); cbv)))
        rw [← hpv, E.tree.nil] at hvl
        refine ⟨⟨rfl⟩, q1, E.tree.l l1, by rw [hq1, hl1]; rfl, by rw [hvl]; rfl, Nat.zero_le _, by omega, by omega, ?_⟩
        cbv
        ((try cbv) <;> (repeat ((with_reducible refine EW.of ?_); cbv)))
        refine LM.of (j + 1, k, c2, a2, some (q1, l1)) rfl ?_ ?_ ?_
        · rw [hS]; exact ⟨by show j + 1 + k = n; omega, hg2.1, hg2.2, hq1, by show l1.length = j + 1; omega, hinv⟩
        · rw [hS]; show k < k + 1; omega
        · rw [hS]
          cbv
          (repeat (first | exact trivial | refine And.intro (Emb.Pur _ _) ?_ | refine And.intro (inc_eq A (by omega)) ?_ | refine And.intro rfl ?_ | refine And.intro (Pur.mk rfl) ?_))
    · have h : n ≤ j := lt_nf h rfl rfl
      obtain rfl : k = 0 := by omega
      subst hinv
      replace hx : x = .ret (.sl 4 (E.tree.l ([] ++ []))) := hx
      rw [List.nil_append, E.tree.nil] at hx
      replace hM : M = [some (.box 3 (.agg [.sl 1 (B.l.l bs), .int .i64 a1, .int .i64 bad])), some (.box 1 (.ref 0 3 0 0)), some (.box 1 (.int .i64 c1)), some (.box 1 (.func (.func 66) [] [.ref 1 1 0 0, .ref 2 1 0 0, .ref 3 1 0 0]))] := hM
      subst hx hM
      ((try cbv) <;> (repeat ((with_reducible refine EW.of ?_); cbv)))
      refine R1.of ?_
      cbv
      (repeat (first | exact trivial | refine And.intro (Emb.Pur _ _) ?_ | refine And.intro rfl ?_ | refine And.intro (E.tree.cut hok) ?_ | refine And.intro (Pur.mk rfl) ?_))
  | some y =>
    obtain ⟨m, l⟩ := y
    dsimp only [stT, rowT, outT, okT] at e2 hok hlen hinv ⊢
    subst e2
    unfold stN fun68 fun66 rdr
    cbv
    ((try cbv) <;> (repeat ((with_reducible refine EW.of ?_); cbv)))
    refine bsplit (fun h => ?_) (fun h => ?_)
    · have h : j < n := lt_nt h rfl rfl
      obtain ⟨k, rfl⟩ : ∃ k', k = k' + 1 := ⟨k - 1, by omega⟩
      ((try cbv) <;> (repeat ((with_reducible refine EW.of ?_); cbv)))
      refine ⟨Ent.of (hP ▸ Try.func68) rfl, ?_⟩
      cases hone : one c1 a1 with
      | no e c2 a2 =>
        rw [hone] at h68'
        replace h68' : TCX P 68 _ _ (.pan (failAV e)) [some (.box 3 (.agg [.sl 1 (B.l.l bs), .int .i64 a2, .int .i64 bad])), some (.box 1 (.ref 0 3 0 0)), some (.box 1 (.int .i64 c2)), some (.box 1 (.func (.func 66) [] [.ref 1 1 0 0, .ref 2 1 0 0, .ref 3 1 0 0]))] := h68'
        rw [listR_no hone] at hinv
        subst hinv
        replace hx : x = .pan (failAV e) := hx
        replace hM : M = [some (.box 3 (.agg [.sl 1 (B.l.l bs), .int .i64 a2, .int .i64 bad])), some (.box 1 (.ref 0 3 0 0)), some (.box 1 (.int .i64 c2)), some (.box 1 (.func (.func 66) [] [.ref 1 1 0 0, .ref 2 1 0 0, .ref 3 1 0 0]))] := hM
        unfold failAV at h68' hx
        subst hx hM
        refine TCX.call [0, 1, 2, 3] h68' ?_
        cbv
        (repeat (first | exact trivial | refine And.intro (Emb.Pur _ _) ?_ | refine And.intro rfl ?_ | refine And.intro (Pur.mk rfl) ?_))
        refine R1.of ?_
        cbv
        (repeat (first | exact trivial | refine And.intro (Emb.Pur _ _) ?_ | refine And.intro rfl ?_ | refine And.intro (Pur.mk rfl) ?_))
      | ok t' c2 a2 =>
        rw [hone] at h68'
        replace h68' : TCX P 68 _ _ (.ret (E.tree.v t')) [some (.box 3 (.agg [.sl 1 (B.l.l bs), .int .i64 a2, .int .i64 bad])), some (.box 1 (.ref 0 3 0 0)), some (.box 1 (.int .i64 c2)), some (.box 1 (.func (.func 66) [] [.ref 1 1 0 0, .ref 2 1 0 0, .ref 3 1 0 0]))] := h68'
        have hg2 := hg' t' c2 a2 hc1 ha1 hone
        rw [listR_ok hone] at hinv
        obtain ⟨pv, hpv⟩ : ∃ pv, E.tree.l l = pv := ⟨_, rfl⟩
        obtain ⟨l1, hl1⟩ : ∃ d, d = l ++ [t'] := ⟨_, rfl⟩
        rw [← hl1] at hinv
        obtain ⟨q1, hq1⟩ : ∃ q, q = l1.length := ⟨_, rfl⟩
        have hvl : E.tree.l l1 = pv ++ [E.tree.v t'] := by rw [hl1, E.tree.app, hpv, E.tree.cons, E.tree.nil]
        have hq2 : q1 = j + 1 := by rw [hq1, hl1, List.length_append]; show _ + 1 = _; omega
        obtain ⟨i', k', s', ks'⟩ := t'
        rw [E.node] at h68' hvl
        refine TCX.call [0, 1, 2, 3] h68' ?_
        cbv
        (repeat (first | exact trivial | refine And.intro (Emb.Pur _ _) ?_ | refine And.intro rfl ?_ | refine And.intro (Pur.mk rfl) ?_))
        ((try cbv) <;> (repeat ((with_reducible refine EW.of ?_); cbv)))
        have hll := E.tree.len l
        rw [← hpv] at hvl
        refine ⟨⟨rfl⟩, q1, E.tree.l l1, by rw [hq1, hl1, List.length_append, hok]; rfl, by rw [hvl, List.take_of_length_le (show (E.tree.l l).length ≤ m by omega)], (show m ≤ (E.tree.l l).length by omega), by omega, by omega, ?_⟩
        cbv
        ((try cbv) <;> (repeat ((with_reducible refine EW.of ?_); cbv)))
        refine LM.of (j + 1, k, c2, a2, some (q1, l1)) rfl ?_ ?_ ?_
        · rw [hS]; exact ⟨by show j + 1 + k = n; omega, hg2.1, hg2.2, hq1, by show l1.length = j + 1; omega, hinv⟩
        · rw [hS]; show k < k + 1; omega
        · rw [hS]
          cbv
          (repeat (first | exact trivial | refine And.intro (Emb.Pur _ _) ?_ | refine And.intro (inc_eq A (by omega)) ?_ | refine And.intro rfl ?_ | refine And.intro (Pur.mk rfl) ?_))
    · have h : n ≤ j := lt_nf h rfl rfl
      obtain rfl : k = 0 := by omega
      subst hinv
      replace hx : x = .ret (.sl 4 (E.tree.l (l ++ []))) := hx
      rw [List.append_nil] at hx
      replace hM : M = [some (.box 3 (.agg [.sl 1 (B.l.l bs), .int .i64 a1, .int .i64 bad])), some (.box 1 (.ref 0 3 0 0)), some (.box 1 (.int .i64 c1)), some (.box 1 (.func (.func 66) [] [.ref 1 1 0 0, .ref 2 1 0 0, .ref 3 1 0 0]))] := hM
      subst hx hM
      ((try cbv) <;> (repeat ((with_reducible refine EW.of ?_); cbv)))
      refine R1.of ?_
      cbv
      (repeat (first | exact trivial | refine And.intro (Emb.Pur _ _) ?_ | refine And.intro rfl ?_ | refine And.intro (E.tree.cut hok) ?_ | refine And.intro (Pur.mk rfl) ?_))
end Go.Proofs.Ytmbbdabcbnemiaa

/-! A reader's nodes. -/
namespace Go.Proofs.Ytmbbdabcbnemiaa
open Go.Proofs.Ytmbbdabcbnemiaa.Tw
def nodeR (A : Ar) (bs : List UInt8) : Nat → Nat → Nat → RN Tree
  | 0, c, a => .no a (c + 1) a
  | f + 1, c, a => if 200 < c + 1 then .no a (c + 1) a else
    ((numR A bs a).toN (c + 1)).bind fun i c a => ((numR A bs a).toN c).bind fun k c a => ((textR A bs a).toN c).bind fun s c a => ((countR A bs a 32 bs.length).toN c).bind fun n c a =>
      (listR (nodeR A bs f) n.toNat c a).bind fun ks c a => .ok (.node i k s ks) c a
theorem textR_ok {A : Ar} {bs : List UInt8} {a a2 : Nat} {s : ByteArray} (h : textR A bs a = .ok s a2) : a2 ≤ bs.length := by
  unfold textR at h
  cases hc : countR A bs a 1 bs.length with
  | no e a3 => rw [hc] at h; cases h
  | ok n a3 =>
    rw [hc] at h
    simp only [RR.bind] at h
    cases ht : takeR bs a3 n.toNat with
    | no e a4 => rw [ht] at h; cases h
    | ok l a4 => rw [ht] at h; cases h; exact (takeR_ok ht).2.2
theorem listR_good {α : Type} {one : Nat → Nat → RN α} {len : Nat} (hgood : ∀ c a x c2 a2, c ≤ 200 → a ≤ len → one c a = .ok x c2 a2 → c2 ≤ 200 ∧ a2 ≤ len) : ∀ (n c a c2 a2 : Nat) (xs : List α), c ≤ 200 → a ≤ len → listR one n c a = .ok xs c2 a2 → c2 ≤ 200 ∧ a2 ≤ len
  | 0, c, a, c2, a2, xs, hc, ha, h => by cases h; exact ⟨hc, ha⟩
  | n + 1, c, a, c2, a2, xs, hc, ha, h => by
    rw [listR] at h
    cases ho : one c a with
    | no e c3 a3 => rw [ho] at h; cases h
    | ok x c3 a3 =>
      rw [ho] at h
      simp only [RN.bind] at h
      have h1 := hgood c a x c3 a3 hc ha ho
      cases hl : listR one n c3 a3 with
      | no e c4 a4 => rw [hl] at h; cases h
      | ok ys c4 a4 =>
        rw [hl] at h
        cases h
        exact listR_good hgood n c3 a3 c2 a2 ys h1.1 h1.2 hl
theorem nodeR_good {A : Ar} {bs : List UInt8} : ∀ (f c a : Nat) (x : Tree) (c2 a2 : Nat), c ≤ 200 → a ≤ bs.length → nodeR A bs f c a = .ok x c2 a2 → c2 ≤ 200 ∧ a2 ≤ bs.length
  | 0, c, a, x, c2, a2, hc, ha, h => by cases h
  | f + 1, c, a, x, c2, a2, hc, ha, h => by
    rw [nodeR] at h
    split at h
    · cases h
    cases h1 : numR A bs a with
    | no e a3 => rw [h1] at h; cases h
    | ok i a3 =>
    rw [h1] at h
    simp only [RR.toN, RN.bind] at h
    cases h2 : numR A bs a3 with
    | no e a4 => rw [h2] at h; cases h
    | ok k a4 =>
    rw [h2] at h
    simp only [RN.bind] at h
    cases h3 : textR A bs a4 with
    | no e a5 => rw [h3] at h; cases h
    | ok s a5 =>
    rw [h3] at h
    simp only [RN.bind] at h
    cases h4 : countR A bs a5 32 bs.length with
    | no e a6 => rw [h4] at h; cases h
    | ok n a6 =>
    rw [h4] at h
    simp only [RN.bind] at h
    cases h5 : listR (nodeR A bs f) n.toNat (c + 1) a6 with
    | no e c7 a7 => rw [h5] at h; cases h
    | ok ks c7 a7 =>
    rw [h5] at h
    cases h
    have h6 : a6 ≤ bs.length := by
      unfold countR at h4
      cases hn : numR A bs a5 with
      | no e a3 => rw [hn] at h4; cases h4
      | ok m a3 =>
        rw [hn] at h4
        simp only [RR.bind] at h4
        split at h4
        · cases h4
        · cases h4; exact (numR_ok hn).2
    exact listR_good (fun c a x c2 a2 hc ha h => nodeR_good f c a x c2 a2 hc ha h) _ _ _ _ _ _ (by omega) h6 h5
theorem d41_0 {d : Int} (h : d = 41 - ((0 : Nat) : Int)) : 40 < d := by omega
theorem d41_s {d : Int} {f : Nat} (h : d = 41 - ((f + 1 : Nat) : Int)) : d ≤ 40 := by omega
theorem d41_i (A : Ar) {d : Int} {f : Nat} (hf : f + 1 ≤ 40) (h : d = 41 - ((f + 1 : Nat) : Int)) : A.op .add .i64 d 1 = 41 - (f : Int) := by
  rw [add_i64 rfl rfl (by omega) (by omega)]; omega
theorem node68 (A : Ar) (E : Em) (B : EmB) {P : Program} (hP : P = Try.prog) (bs : List UInt8) (bad : Int) (d d2 : Int) (hd2 : A.op .add .i64 d 1 = d2) (c a : Nat) (R : RN Tree)
    (h66 : TCX P 66 [.int .i64 d2, .ref 1 1 0 0, .ref 2 1 0 0, .ref 3 1 0 0] (stN B bs bad c a) (R.fin E.tree.v) (stN B bs bad R.cnt R.pos)) :
    TCX P 68 [.ref 3 1 0 0, .imm [.int .i64 d]] (stN B bs bad c a) (R.fin E.tree.v) (stN B bs bad R.cnt R.pos) := by
  subst hd2
  obtain ⟨x, hx⟩ : ∃ x, x = R.fin E.tree.v := ⟨_, rfl⟩
  obtain ⟨M, hM⟩ : ∃ M, M = stN B bs bad R.cnt R.pos := ⟨_, rfl⟩
  rw [← hx, ← hM]
  refine TCX.of A _ _ T0 (T0_ok hP) (hP ▸ Try.func68) rfl _ rfl (by simp) ?_
  unfold stN fun66 rdr
  cbv
  ((try cbv) <;> (repeat ((with_reducible refine EW.of ?_); cbv)))
  refine ⟨Ent.of (hP ▸ Try.func66) rfl, ?_⟩
  cases R with
  | no e c2 a2 =>
    subst hx hM
    refine TCX.call [0, 1, 2, 3] h66 ?_
    cbv
    (repeat (first | exact trivial | refine And.intro (Emb.Pur _ _) ?_ | refine And.intro rfl ?_ | refine And.intro (Pur.mk rfl) ?_ | refine And.intro (inc_eq A (by omega)) ?_))
    refine R1.of ?_
    cbv
    (repeat (first | exact trivial | refine And.intro (Emb.Pur _ _) ?_ | refine And.intro rfl ?_ | refine And.intro (Pur.mk rfl) ?_ | refine And.intro (inc_eq A (by omega)) ?_))
  | ok t c2 a2 =>
    obtain ⟨i, k, s, ks⟩ := t
    replace h66 : TCX P _ _ _ (.ret (E.tree.v (.node i k s ks))) (stN B bs bad c2 a2) := h66
    replace hx : x = .ret (E.tree.v (.node i k s ks)) := hx
    rw [E.node] at h66 hx
    subst hx hM
    refine TCX.call [0, 1, 2, 3] h66 ?_
    cbv
    (repeat (first | exact trivial | refine And.intro (Emb.Pur _ _) ?_ | refine And.intro rfl ?_ | refine And.intro (Pur.mk rfl) ?_ | refine And.intro (inc_eq A (by omega)) ?_))
    ((try cbv) <;> (repeat ((with_reducible refine EW.of ?_); cbv)))
    refine R1.of ?_
    cbv
    (repeat (first | exact trivial | refine And.intro (Emb.Pur _ _) ?_ | refine And.intro rfl ?_ | refine And.intro (Pur.mk rfl) ?_ | refine And.intro (inc_eq A (by omega)) ?_))
set_option maxHeartbeats 4000000 in
theorem node66 (A : Ar) (E : Em) (B : EmB) {P : Program} (hP : P = Try.prog) (bs : List UInt8) (hl : bs.length ≤ 1000000000) (bad : Int) : ∀ (f : Nat), f ≤ 40 → ∀ (d : Int), d = 41 - (f : Int) → ∀ (c a : Nat), c ≤ 200 → a ≤ bs.length →
    TCX P 66 [.int .i64 d, .ref 1 1 0 0, .ref 2 1 0 0, .ref 3 1 0 0] (stN B bs bad c a) ((nodeR A bs f c a).fin E.tree.v) (stN B bs bad (nodeR A bs f c a).cnt (nodeR A bs f c a).pos) := by
  intro f
  induction f with
  | zero =>
  intro _ d hd c a hc ha
  obtain ⟨x, hx⟩ : ∃ x, x = AEnd.pan (failAV a) := ⟨_, rfl⟩
  obtain ⟨M, hM⟩ : ∃ M, M = stN B bs bad (c + 1) a := ⟨_, rfl⟩
  show TCX P _ _ (stN B bs bad c a) (AEnd.pan (failAV a)) (stN B bs bad (c + 1) a)
  rw [← hx, ← hM]
  refine TCX.of A _ _ T0 (T0_ok hP) (hP ▸ Try.func66) rfl _ rfl (by simp) ?_
  unfold stN fun66 rdr
  cbv
  ((try cbv) <;> (repeat ((with_reducible refine EW.of ?_); cbv)))
  refine bsplit (fun h1 => ?_) (fun h1 => ?_)
  · skip
    subst hx hM
    cbv
    ((try cbv) <;> (repeat ((with_reducible refine EW.of ?_); cbv)))
    refine R1.of ?_
    cbv
    (repeat (first | exact trivial | refine And.intro (Emb.Pur _ _) ?_ | refine And.intro rfl ?_ | refine And.intro (Pur.mk rfl) ?_ | refine And.intro (inc_eq A (by omega)) ?_))
  · cbv
    ((try cbv) <;> (repeat ((with_reducible refine EW.of ?_); cbv)))
    refine byes (show A.lt 40 d = true from ltT (d41_0 hd)) ?_
    subst hx hM
    cbv
    ((try cbv) <;> (repeat ((with_reducible refine EW.of ?_); cbv)))
    refine R1.of ?_
    cbv
    (repeat (first | exact trivial | refine And.intro (Emb.Pur _ _) ?_ | refine And.intro rfl ?_ | refine And.intro (Pur.mk rfl) ?_ | refine And.intro (inc_eq A (by omega)) ?_))
  | succ f ih =>
  intro hf d hd c a hc ha
  obtain ⟨R, hR⟩ : ∃ R, nodeR A bs (f + 1) c a = R := ⟨_, rfl⟩
  rw [hR]
  obtain ⟨x, hx⟩ : ∃ x, x = R.fin E.tree.v := ⟨_, rfl⟩
  obtain ⟨M, hM⟩ : ∃ M, M = stN B bs bad R.cnt R.pos := ⟨_, rfl⟩
  rw [← hx, ← hM]
  rw [nodeR] at hR
  have h43 := number43 A B hP bs hl a ha bad
  refine TCX.of A _ _ T0 (T0_ok hP) (hP ▸ Try.func66) rfl _ rfl (by simp) ?_
  unfold stN fun66 rdr
  cbv
  ((try cbv) <;> (repeat ((with_reducible refine EW.of ?_); cbv)))
  refine bsplit (fun h1 => ?_) (fun h1 => ?_)
  · have h1 : 200 < c + 1 := lt_nt (i := 200) h1 rfl (inc_eq A (by omega))
    rw [if_pos h1] at hR
    rw [← hR] at hx hM
    subst hx hM
    cbv
    ((try cbv) <;> (repeat ((with_reducible refine EW.of ?_); cbv)))
    refine R1.of ?_
    cbv
    (repeat (first | exact trivial | refine And.intro (Emb.Pur _ _) ?_ | refine And.intro rfl ?_ | refine And.intro (Pur.mk rfl) ?_ | refine And.intro (inc_eq A (by omega)) ?_))
  have h1 : c + 1 ≤ 200 := lt_nf (i := 200) h1 rfl (inc_eq A (by omega))
  rw [if_neg (by omega)] at hR
  cbv
  ((try cbv) <;> (repeat ((with_reducible refine EW.of ?_); cbv)))
  refine bno (show A.lt 40 d = false from ltF (d41_s hd)) ?_
  cbv
  obtain ⟨c1, hc1⟩ : ∃ c1, c1 = c + 1 := ⟨_, rfl⟩
  have hinc : A.op .add .i64 (c : Int) 1 = (c1 : Int) := by rw [hc1]; exact inc_eq A (by omega)
  rw [← hc1] at hR
  have hc1' : c1 ≤ 200 := by omega
  clear hc1 h1
  refine EW.vs [(6, .int .i64 a), (5, .ref 4 4 0 0), (4, .imm [.int .i64 d]), (1, .ref 1 1 0 0), (2, .ref 2 1 0 0), (3, .ref 3 1 0 0)] (stN B bs bad c1 a ++ [some (.box 4 (.agg [.int .i64 0, .int .i64 0, .str ⟨#[]⟩, .nils]))]) 44 rfl ?_
  cbv
  (repeat (first | exact trivial | refine And.intro (Emb.Pur _ _) ?_ | refine And.intro hinc ?_ | refine And.intro rfl ?_ | refine And.intro (Pur.mk rfl) ?_))
  clear hinc
  ((try cbv) <;> (repeat ((with_reducible refine EW.of ?_); cbv)))
  refine ⟨Ent.of (hP ▸ Try.func43) rfl, ?_⟩
  cases h1 : numR A bs a with
  | no e a2 =>
    rw [h1] at h43 hR
    rw [← hR] at hx hM
    subst hx hM
    refine TCX.call [0] h43 ?_
    cbv
    (repeat (first | exact trivial | refine And.intro (Emb.Pur _ _) ?_ | refine And.intro rfl ?_ | refine And.intro (Pur.mk rfl) ?_ | refine And.intro (inc_eq A (by omega)) ?_))
    refine R1.of ?_
    cbv
    (repeat (first | exact trivial | refine And.intro (Emb.Pur _ _) ?_ | refine And.intro rfl ?_ | refine And.intro (Pur.mk rfl) ?_ | refine And.intro (inc_eq A (by omega)) ?_))
  | ok i a2 =>
  rw [h1] at h43 hR
  have ha2 := (numR_ok h1).2
  simp only [RR.toN, RN.bind] at hR
  refine TCX.call [0] h43 ?_
  cbv
  (repeat (first | exact trivial | refine And.intro (Emb.Pur _ _) ?_ | refine And.intro rfl ?_ | refine And.intro (Pur.mk rfl) ?_ | refine And.intro (inc_eq A (by omega)) ?_))
  ((try cbv) <;> (repeat ((with_reducible refine EW.of ?_); cbv)))
  have h43b := number43 A B hP bs hl a2 ha2 bad
  refine ⟨Ent.of (hP ▸ Try.func43) rfl, ?_⟩
  cases h2 : numR A bs a2 with
  | no e a3 =>
    rw [h2] at h43b hR
    rw [← hR] at hx hM
    subst hx hM
    refine TCX.call [0] h43b ?_
    cbv
    (repeat (first | exact trivial | refine And.intro (Emb.Pur _ _) ?_ | refine And.intro rfl ?_ | refine And.intro (Pur.mk rfl) ?_ | refine And.intro (inc_eq A (by omega)) ?_))
    refine R1.of ?_
    cbv
    (repeat (first | exact trivial | refine And.intro (Emb.Pur _ _) ?_ | refine And.intro rfl ?_ | refine And.intro (Pur.mk rfl) ?_ | refine And.intro (inc_eq A (by omega)) ?_))
  | ok k a3 =>
  rw [h2] at h43b hR
  have ha3 := (numR_ok h2).2
  simp only [RN.bind] at hR
  refine TCX.call [0] h43b ?_
  cbv
  (repeat (first | exact trivial | refine And.intro (Emb.Pur _ _) ?_ | refine And.intro rfl ?_ | refine And.intro (Pur.mk rfl) ?_ | refine And.intro (inc_eq A (by omega)) ?_))
  ((try cbv) <;> (repeat ((with_reducible refine EW.of ?_); cbv)))
  have h48 := text48 A B hP bs hl a3 ha3 bad
  refine ⟨Ent.of (hP ▸ Try.func48) rfl, ?_⟩
  cases h3 : textR A bs a3 with
  | no e a4 =>
    rw [h3] at h48 hR
    rw [← hR] at hx hM
    subst hx hM
    refine TCX.call [0] h48 ?_
    cbv
    (repeat (first | exact trivial | refine And.intro (Emb.Pur _ _) ?_ | refine And.intro rfl ?_ | refine And.intro (Pur.mk rfl) ?_ | refine And.intro (inc_eq A (by omega)) ?_))
    refine R1.of ?_
    cbv
    (repeat (first | exact trivial | refine And.intro (Emb.Pur _ _) ?_ | refine And.intro rfl ?_ | refine And.intro (Pur.mk rfl) ?_ | refine And.intro (inc_eq A (by omega)) ?_))
  | ok s a4 =>
  rw [h3] at h48 hR
  have ha4 := textR_ok h3
  simp only [RN.bind] at hR
  refine TCX.call [0] h48 ?_
  cbv
  (repeat (first | exact trivial | refine And.intro (Emb.Pur _ _) ?_ | refine And.intro rfl ?_ | refine And.intro (Pur.mk rfl) ?_ | refine And.intro (inc_eq A (by omega)) ?_))
  ((try cbv) <;> (repeat ((with_reducible refine EW.of ?_); cbv)))
  have hbl : A.len (B.l.l bs) = (bs.length : Int) := by rw [A.ok_len, B.l.len]
  have h55 := count55 A B hP bs hl a4 ha4 bad 32 (A.len (B.l.l bs))
  rw [hbl] at h55
  cases h4 : countR A bs a4 32 bs.length with
  | no e a5 =>
    rw [h4] at h55 hR
    rw [← hbl] at h55
    rw [← hR] at hx hM
    subst hx hM
    (refine TW.drawE (A := A) true [] _ [(6, [none, none, none, none])] rfl (T0_ok hP) (hP ▸ follows_mixed) (by kernel_rfl) rfl (by kernel_rfl) (by cbv) (by first | kernel_rfl | cbv) rfl rfl rfl ?_; cbv)
    refine And.intro (And.intro (Ent.of (hP ▸ Try.func55) rfl) ?_) trivial
    refine TCX.call [0] h55 ?_
    cbv
    (repeat (first | exact trivial | refine And.intro (Emb.Pur _ _) ?_ | refine And.intro rfl ?_ | refine And.intro (Pur.mk rfl) ?_ | refine And.intro (inc_eq A (by omega)) ?_))
    refine R1.of ?_
    cbv
    (repeat (first | exact trivial | refine And.intro (Emb.Pur _ _) ?_ | refine And.intro rfl ?_ | refine And.intro (Pur.mk rfl) ?_ | refine And.intro (inc_eq A (by omega)) ?_))
  | ok n a5 =>
  rw [h4] at h55 hR
  rw [← hbl] at h55
  have hc4 := countR_ok hl h4
  obtain ⟨m, rfl⟩ : ∃ m : Nat, n = m := ⟨n.toNat, by omega⟩
  simp only [RN.bind, Int.toNat_natCast] at hR
  replace h55 : TC1 P _ _ _ (.int .i64 (m : Int)) [some (rdr B bs a5 bad)] := h55
  have h67 := list67 A E B hP bs bad d (nodeR A bs f) (fun c a hc ha => node68 A E B hP bs bad d _ (d41_i A hf hd) c a _ (ih (by omega) _ rfl c a hc ha)) (fun c a x c2 a2 hc ha h => nodeR_good f c a x c2 a2 hc ha h) m (by omega) c1 a5 hc1' hc4.2.1 _ rfl
  cases h5 : listR (nodeR A bs f) m c1 a5 with
  | no e c6 a6 =>
    rw [h5] at h67 hR
    rw [← hR] at hx hM
    subst hx hM
    (refine TW.drawE (A := A) true [] _ [(6, [some (.box 3 (.agg [.sl 1 (B.l.l bs), .int .i64 a5, .int .i64 bad])), some (.box 1 (.ref 0 3 0 0)), some (.box 1 (.int .i64 c1)), some (.box 1 (.func (.func 66) [] [.ref 1 1 0 0, .ref 2 1 0 0, .ref 3 1 0 0])), some (.box 4 (.agg [.int .i64 0, .int .i64 0, .str ⟨⟨[]⟩⟩, .nils])), some (.box 4 (.agg [.int .i64 i, .int .i64 k, .str s, .nils]))]), (8, [none, none, none, none])] rfl (T0_ok hP) (hP ▸ follows_mixed) (by kernel_rfl) rfl (by kernel_rfl) (by cbv) (by first | kernel_rfl | cbv) rfl rfl rfl ?_; cbv)
    refine And.intro (Ent.of (hP ▸ Try.func55) rfl) ⟨.int .i64 m, [some (.box 3 (.agg [.sl 1 (B.l.l bs), .int .i64 a5, .int .i64 bad])), some (.box 1 (.ref 0 3 0 0)), some (.box 1 (.int .i64 c1)), some (.box 1 (.func (.func 66) [] [.ref 1 1 0 0, .ref 2 1 0 0, .ref 3 1 0 0])), some (.box 4 (.agg [.int .i64 0, .int .i64 0, .str ⟨⟨[]⟩⟩, .nils])), some (.box 4 (.agg [.int .i64 i, .int .i64 k, .str s, .nils]))], TC1.call [0] h55 ?_, ⟨rfl, ?_⟩⟩
    · skip
      cbv
      (repeat (first | exact trivial | refine And.intro (Emb.Pur _ _) ?_ | refine And.intro rfl ?_ | refine And.intro (Pur.mk rfl) ?_ | refine And.intro (inc_eq A (by omega)) ?_))
    cbv
    refine And.intro (And.intro (Ent.of (hP ▸ Try.func67) rfl) ?_) trivial
    refine TCX.call [0, 1, 2, 3] h67 ?_
    cbv
    (repeat (first | exact trivial | refine And.intro (Emb.Pur _ _) ?_ | refine And.intro rfl ?_ | refine And.intro (Pur.mk rfl) ?_ | refine And.intro (inc_eq A (by omega)) ?_))
    refine R1.of ?_
    cbv
    (repeat (first | exact trivial | refine And.intro (Emb.Pur _ _) ?_ | refine And.intro rfl ?_ | refine And.intro (Pur.mk rfl) ?_ | refine And.intro (inc_eq A (by omega)) ?_))
  | ok ks c6 a6 =>
  rw [h5] at h67 hR
  replace hx : x = .ret (E.tree.v (.node i k s ks)) := by rw [hx, ← hR]; rfl
  replace hM : M = stN B bs bad c6 a6 := by rw [hM, ← hR]; rfl
  replace h67 : TC1 P _ _ _ (.sl 4 (E.tree.l ks)) (stN B bs bad c6 a6) := h67
  rw [E.node] at hx
  subst hx hM
  (refine TW.drawE (A := A) false [] _ [(6, [some (.box 3 (.agg [.sl 1 (B.l.l bs), .int .i64 a5, .int .i64 bad])), some (.box 1 (.ref 0 3 0 0)), some (.box 1 (.int .i64 c1)), some (.box 1 (.func (.func 66) [] [.ref 1 1 0 0, .ref 2 1 0 0, .ref 3 1 0 0])), some (.box 4 (.agg [.int .i64 0, .int .i64 0, .str ⟨⟨[]⟩⟩, .nils])), some (.box 4 (.agg [.int .i64 i, .int .i64 k, .str s, .nils]))]), (8, [some (.box 3 (.agg [.sl 1 (B.l.l bs), .int .i64 a6, .int .i64 bad])), some (.box 1 (.ref 0 3 0 0)), some (.box 1 (.int .i64 c6)), some (.box 1 (.func (.func 66) [] [.ref 1 1 0 0, .ref 2 1 0 0, .ref 3 1 0 0])), some (.box 4 (.agg [.int .i64 0, .int .i64 0, .str ⟨⟨[]⟩⟩, .nils])), some (.box 4 (.agg [.int .i64 i, .int .i64 k, .str s, .nils]))])] rfl (T0_ok hP) (hP ▸ follows_mixed) (by kernel_rfl) rfl (by kernel_rfl) (by cbv) (by first | kernel_rfl | cbv) rfl rfl rfl ?_; cbv)
  refine And.intro (Ent.of (hP ▸ Try.func55) rfl) ⟨.int .i64 m, [some (.box 3 (.agg [.sl 1 (B.l.l bs), .int .i64 a5, .int .i64 bad])), some (.box 1 (.ref 0 3 0 0)), some (.box 1 (.int .i64 c1)), some (.box 1 (.func (.func 66) [] [.ref 1 1 0 0, .ref 2 1 0 0, .ref 3 1 0 0])), some (.box 4 (.agg [.int .i64 0, .int .i64 0, .str ⟨⟨[]⟩⟩, .nils])), some (.box 4 (.agg [.int .i64 i, .int .i64 k, .str s, .nils]))], TC1.call [0] h55 ?_, ⟨rfl, ?_⟩⟩
  · skip
    cbv
    (repeat (first | exact trivial | refine And.intro (Emb.Pur _ _) ?_ | refine And.intro rfl ?_ | refine And.intro (Pur.mk rfl) ?_ | refine And.intro (inc_eq A (by omega)) ?_))
  cbv
  refine And.intro (Ent.of (hP ▸ Try.func67) rfl) ⟨.sl 4 (E.tree.l ks), [some (.box 3 (.agg [.sl 1 (B.l.l bs), .int .i64 a6, .int .i64 bad])), some (.box 1 (.ref 0 3 0 0)), some (.box 1 (.int .i64 c6)), some (.box 1 (.func (.func 66) [] [.ref 1 1 0 0, .ref 2 1 0 0, .ref 3 1 0 0])), some (.box 4 (.agg [.int .i64 0, .int .i64 0, .str ⟨⟨[]⟩⟩, .nils])), some (.box 4 (.agg [.int .i64 i, .int .i64 k, .str s, .nils]))], TC1.call [0, 1, 2, 3] h67 ?_, ⟨rfl, ?_⟩⟩
  · skip
    cbv
    (repeat (first | exact trivial | refine And.intro (Emb.Pur _ _) ?_ | refine And.intro rfl ?_ | refine And.intro (Pur.mk rfl) ?_ | refine And.intro (inc_eq A (by omega)) ?_))
  cbv
  ((try cbv) <;> (repeat ((with_reducible refine EW.of ?_); cbv)))
  refine R1.of ?_
  cbv
  (repeat (first | exact trivial | refine And.intro (Emb.Pur _ _) ?_ | refine And.intro rfl ?_ | refine And.intro (Pur.mk rfl) ?_ | refine And.intro (inc_eq A (by omega)) ?_))
end Go.Proofs.Ytmbbdabcbnemiaa

/-! A reader's nodes, asked for. -/
namespace Go.Proofs.Ytmbbdabcbnemiaa
open Go.Proofs.Ytmbbdabcbnemiaa.Tw
def RN.toR {α : Type} : RN α → RR α
  | .ok v _ a => .ok v a
  | .no e _ a => .no e a
def nodeTR (A : Ar) (bs : List UInt8) (a : Nat) : RR Tree := (nodeR A bs 40 0 a).toR
theorem nodeTR_ok {A : Ar} {bs : List UInt8} {a a2 : Nat} {t : Tree} (ha : a ≤ bs.length) (h : nodeTR A bs a = .ok t a2) : a2 ≤ bs.length := by
  unfold nodeTR at h
  cases hn : nodeR A bs 40 0 a with
  | no e c a3 => rw [hn] at h; cases h
  | ok v c a3 => rw [hn] at h; cases h; exact (nodeR_good _ _ _ _ _ _ (Nat.zero_le _) ha hn).2
set_option maxHeartbeats 1000000 in
theorem node50 (A : Ar) (E : Em) (B : EmB) {P : Program} (hP : P = Try.prog) (bs : List UInt8) (hl : bs.length ≤ 1000000000) (a : Nat) (ha : a ≤ bs.length) (bad : Int) :
    TCX P 50 [.ref 0 3 0 0] [some (rdr B bs a bad)] ((nodeTR A bs a).fin E.tree.v) [some (rdr B bs (nodeTR A bs a).pos bad)] := by
  have h66 := node66 A E B hP bs hl bad 40 (Nat.le_refl _) 1 (by decide) 0 a (Nat.zero_le _) ha
  unfold nodeTR
  generalize nodeR A bs 40 0 a = R at h66
  obtain ⟨x, hx⟩ : ∃ x, x = R.toR.fin E.tree.v := ⟨_, rfl⟩
  obtain ⟨M, hM⟩ : ∃ M, M = [some (rdr B bs R.toR.pos bad)] := ⟨_, rfl⟩
  rw [← hx, ← hM]
  refine TCX.of A _ _ T0 (T0_ok hP) (hP ▸ Try.func50) rfl _ rfl (by simp) ?_
  unfold rdr
  cbv
  ((try cbv) <;> (repeat ((with_reducible refine EW.of ?_); cbv)))
  refine ⟨Ent.of (hP ▸ Try.func66) rfl, ?_⟩
  cases R with
  | no e c2 a2 =>
    subst hx hM
    refine TCX.call [0, 1, 3, 4] h66 ?_
    cbv
    (repeat (first | exact trivial | refine And.intro (Emb.Pur _ _) ?_ | refine And.intro rfl ?_ | refine And.intro (Pur.mk rfl) ?_))
    refine R1.of ?_
    cbv
    (repeat (first | exact trivial | refine And.intro (Emb.Pur _ _) ?_ | refine And.intro rfl ?_ | refine And.intro (Pur.mk rfl) ?_))
  | ok t c2 a2 =>
    obtain ⟨i, k, s, ks⟩ := t
    replace h66 : TCX P _ _ _ (.ret (E.tree.v (.node i k s ks))) (stN B bs bad c2 a2) := h66
    replace hx : x = .ret (E.tree.v (.node i k s ks)) := hx
    rw [E.node] at h66 hx
    subst hx hM
    refine TCX.call [0, 1, 3, 4] h66 ?_
    cbv
    (repeat (first | exact trivial | refine And.intro (Emb.Pur _ _) ?_ | refine And.intro rfl ?_ | refine And.intro (Pur.mk rfl) ?_))
    ((try cbv) <;> (repeat ((with_reducible refine EW.of ?_); cbv)))
    refine R1.of ?_
    cbv
    (repeat (first | exact trivial | refine And.intro (Emb.Pur _ _) ?_ | refine And.intro rfl ?_ | refine And.intro (Pur.mk rfl) ?_))
def tree0 : Tree := .node 0 0 ⟨#[]⟩ []
theorem Em.zero (E : Em) : E.tree.v tree0 = .agg [.int .i64 0, .int .i64 0, .str ⟨#[]⟩, .sl 4 []] := by
  unfold tree0
  rw [E.node, E.tree.nil]
set_option maxHeartbeats 1000000 in
theorem askN (A : Ar) (E : Em) (B : EmB) {P : Program} (hP : P = Try.prog) (bs : List UInt8) (a : Nat) (bad : Int) (g : FuncId) (hen : Ent P g) (r : RR Tree)
    (hg : TCX P g [.ref 0 3 0 0] [some (rdr B bs a bad)] (r.fin E.tree.v) [some (rdr B bs r.pos bad)]) (t : Tree) (a2 : Nat) (bad2 : Int) (h : askR tree0 bs a bad r = (t, a2, bad2)) :
    TCX P 49 [.ref 0 3 0 0, .func (.func g) [.ref 0 3 0 0] []] [some (rdr B bs a bad)] (.ret (E.tree.v t)) [some (rdr B bs a2 bad2)] := by
  unfold askR at h
  by_cases h0 : 0 ≤ bad
  · rw [if_pos h0] at h
    cases h
    rw [E.zero]
    unfold rdr at *
    refine TCX.ofD A _ _ T0 (T0_ok hP) (hP ▸ Try.func49) rfl _ rfl (by simp) ?_
    refine EWD.seq ?_
    cbv
    refine EWD.seq ?_
    cbv
    ((try cbv) <;> (repeat ((with_reducible refine EW.of ?_); cbv)))
    refine byes (leT h0) ?_
    cbv
    ((try cbv) <;> (repeat ((with_reducible refine EW.of ?_); cbv)))
    refine R1.of ?_
    cbv
    (repeat (first | exact trivial | refine And.intro (Emb.Pur _ _) ?_ | refine And.intro rfl ?_ | refine And.intro (Pur.mk rfl) ?_))
  · rw [if_neg h0] at h
    have hb : bad < 0 := by omega
    cases r with
    | no e a3 =>
      cases h
      rw [E.zero]
      replace hg : TCX P g _ _ (.pan (failAV bad2)) [some (rdr B bs a2 bad)] := hg
      unfold rdr failAV at *
      refine TCX.ofD A _ _ T0 (T0_ok hP) (hP ▸ Try.func49) rfl _ rfl (by simp) ?_
      refine EWD.seq ?_
      cbv
      refine EWD.seq ?_
      cbv
      ((try cbv) <;> (repeat ((with_reducible refine EW.of ?_); cbv)))
      refine bno (leF hb) ?_
      cbv
      ((try cbv) <;> (repeat ((with_reducible refine EW.of ?_); cbv)))
      refine EWD.defer ?_
      cbv
      refine ⟨hen, ?_⟩
      refine TCX.call [0] hg ?_
      cbv
      (repeat (first | exact trivial | refine And.intro (Emb.Pur _ _) ?_ | refine And.intro rfl ?_ | refine And.intro (Pur.mk rfl) ?_ | refine And.intro (Pur.mk (by assumption)) ?_))
      ((try cbv) <;> (repeat ((with_reducible refine EW.of ?_); cbv)))
      refine ⟨Ent.of (hP ▸ Try.func65) rfl, ?_⟩
      refine DC.of A T0 (T0_ok hP) (hP ▸ Try.func65) rfl _ rfl (by simp) rfl rfl rfl rfl rfl ?_
      cbv
      ((try cbv) <;> (repeat ((with_reducible refine EW.of ?_); cbv)))
      (refine TW.drawE (A := A) false [] _ [(6, [some (.box 3 (.agg [.sl 1 (B.l.l bs), .int .i64 a2, .int .i64 bad2])), some (.box 1 (.ref 0 3 0 0)), some (.box 4 (.agg [.int .i64 0, .int .i64 0, .str ⟨#[]⟩, .nils])), some (.box 1 (.agg [.int .i64 bad2])), some (.box 4 (.agg [.int .i64 0, .int .i64 0, .str ⟨#[]⟩, .nils]))])] rfl (T0_ok hP) (hP ▸ follows_mixed) (by kernel_rfl) rfl (by kernel_rfl) (by cbv) (by first | kernel_rfl | cbv) rfl rfl rfl ?_; cbv)
      refine ⟨rfl, ?_⟩
      refine R1.of ?_
      cbv
      (repeat (first | exact trivial | refine And.intro (Emb.Pur _ _) ?_ | refine And.intro rfl ?_ | refine And.intro (Pur.mk rfl) ?_))
    | ok v a3 =>
      cases h
      replace hg : TCX P g _ _ (.ret (E.tree.v t)) [some (rdr B bs a2 bad)] := hg
      obtain ⟨i, k, s, ks⟩ := t
      rw [E.node] at hg ⊢
      unfold rdr at *
      refine TCX.ofD A _ _ T0 (T0_ok hP) (hP ▸ Try.func49) rfl _ rfl (by simp) ?_
      refine EWD.seq ?_
      cbv
      refine EWD.seq ?_
      cbv
      ((try cbv) <;> (repeat ((with_reducible refine EW.of ?_); cbv)))
      refine bno (leF hb) ?_
      cbv
      ((try cbv) <;> (repeat ((with_reducible refine EW.of ?_); cbv)))
      refine EWD.defer ?_
      cbv
      refine ⟨hen, ?_⟩
      refine TCX.call [0] hg ?_
      cbv
      (repeat (first | exact trivial | refine And.intro (Emb.Pur _ _) ?_ | refine And.intro rfl ?_ | refine And.intro (Pur.mk rfl) ?_))
      ((try cbv) <;> (repeat ((with_reducible refine EW.of ?_); cbv)))
      refine ⟨Ent.of (hP ▸ Try.func65) rfl, ?_⟩
      refine DC.of A T0 (T0_ok hP) (hP ▸ Try.func65) rfl _ rfl (by simp) rfl rfl rfl rfl rfl ?_
      cbv
      ((try cbv) <;> (repeat ((with_reducible refine EW.of ?_); cbv)))
      refine R1.of ?_
      cbv
      (repeat (first | exact trivial | refine And.intro (Emb.Pur _ _) ?_ | refine And.intro rfl ?_ | refine And.intro (Pur.mk rfl) ?_))
set_option maxHeartbeats 1000000 in
theorem Node26 (A : Ar) (E : Em) (B : EmB) {P : Program} (hP : P = Try.prog) (bs : List UInt8) (hl : bs.length ≤ 1000000000) (a : Nat) (ha : a ≤ bs.length) (bad : Int) (t : Tree) (a2 : Nat) (bad2 : Int) (h : askR tree0 bs a bad (nodeTR A bs a) = (t, a2, bad2)) :
    TC1 P 26 [.ref 0 3 0 0] [some (rdr B bs a bad)] (E.tree.v t) [some (rdr B bs a2 bad2)] := by
  have h49 := askN A E B hP bs a bad _ (Ent.of (hP ▸ Try.func50) rfl) _ (node50 A E B hP bs hl a ha bad) t a2 bad2 h
  obtain ⟨i, k, s, ks⟩ := t
  rw [E.node] at h49 ⊢
  unfold rdr at *
  refine TC1.of A _ _ T0 (T0_ok hP) (hP ▸ Try.func26) rfl _ rfl (by simp) ?_
  cbv
  ((try cbv) <;> (repeat ((with_reducible refine EW.of ?_); cbv)))
  refine ⟨Ent.of (hP ▸ Try.func49) rfl, ?_⟩
  refine TCX.call [0] h49 ?_
  cbv
  (repeat (first | exact trivial | refine And.intro (Emb.Pur _ _) ?_ | refine And.intro rfl ?_ | refine And.intro (Pur.mk rfl) ?_))
  ((try cbv) <;> (repeat ((with_reducible refine EW.of ?_); cbv)))
  refine R1.of ?_
  cbv
  (repeat (first | exact trivial | refine And.intro (Emb.Pur _ _) ?_ | refine And.intro rfl ?_ | refine And.intro (Pur.mk rfl) ?_))
theorem Small22 (A : Ar) (B : EmB) {P : Program} (hP : P = Try.prog) (bs : List UInt8) (hl : bs.length ≤ 1000000000) (a : Nat) (ha : a ≤ bs.length) (bad : Int) (v : Int) (a2 : Nat) (bad2 : Int) (h : askR 0 bs a bad (smallR A bs a) = (v, a2, bad2)) :
    TC1 P 22 [.ref 0 3 0 0] [some (rdr B bs a bad)] (.int .i8 v) [some (rdr B bs a2 bad2)] := by
  have hg : TCX P 45 [.ref 0 3 0 0, .func (.func 46) [.ref 0 3 0 0] []] [some (rdr B bs a bad)] (.ret (.int .i8 v)) [some (rdr B bs a2 bad2)] := by
    have h43 := small46 A B hP bs hl a ha bad
    unfold askR at h
    by_cases h0 : 0 ≤ bad
    · rw [if_pos h0] at h
      cases h
      exact askS_bad A B hP bs a bad h0 _
    · rw [if_neg h0] at h
      generalize smallR A bs a = r at h h43
      cases r with
      | ok v a2 => cases h; exact askS_small_ok A B hP bs a _ bad (by omega) _ h43
      | no e a2 => cases h; exact askS_small_no A B hP bs a _ bad _ (by omega) h43
  unfold rdr at *
  refine TC1.of A _ _ T0 (T0_ok hP) (hP ▸ Try.func22) rfl _ rfl (by simp) ?_
  cbv
  ((try cbv) <;> (repeat ((with_reducible refine EW.of ?_); cbv)))
  refine ⟨Ent.of (hP ▸ Try.func45) rfl, ?_⟩
  refine TCX.call [0] hg ?_
  cbv
  (repeat (first | exact trivial | refine And.intro (Emb.Pur _ _) ?_ | refine And.intro rfl ?_ | refine And.intro (Pur.mk rfl) ?_))
  ((try cbv) <;> (repeat ((with_reducible refine EW.of ?_); cbv)))
  refine R1.of ?_
  cbv
  (repeat (first | exact trivial | refine And.intro (Emb.Pur _ _) ?_ | refine And.intro rfl ?_ | refine And.intro (Pur.mk rfl) ?_))
theorem Text24 (A : Ar) (B : EmB) {P : Program} (hP : P = Try.prog) (bs : List UInt8) (hl : bs.length ≤ 1000000000) (a : Nat) (ha : a ≤ bs.length) (bad : Int) (v : ByteArray) (a2 : Nat) (bad2 : Int) (h : askR ⟨#[]⟩ bs a bad (textR A bs a) = (v, a2, bad2)) :
    TC1 P 24 [.ref 0 3 0 0] [some (rdr B bs a bad)] (.str v) [some (rdr B bs a2 bad2)] := by
  have hg : TCX P 47 [.ref 0 3 0 0, .func (.func 48) [.ref 0 3 0 0] []] [some (rdr B bs a bad)] (.ret (.str v)) [some (rdr B bs a2 bad2)] := by
    have h43 := text48 A B hP bs hl a ha bad
    unfold askR at h
    by_cases h0 : 0 ≤ bad
    · rw [if_pos h0] at h
      cases h
      exact askT_bad A B hP bs a bad h0 _
    · rw [if_neg h0] at h
      generalize textR A bs a = r at h h43
      cases r with
      | ok v a2 => cases h; exact askT_text_ok A B hP bs a _ bad (by omega) _ h43
      | no e a2 => cases h; exact askT_text_no A B hP bs a _ bad _ (by omega) h43
  unfold rdr at *
  refine TC1.of A _ _ T0 (T0_ok hP) (hP ▸ Try.func24) rfl _ rfl (by simp) ?_
  cbv
  ((try cbv) <;> (repeat ((with_reducible refine EW.of ?_); cbv)))
  refine ⟨Ent.of (hP ▸ Try.func47) rfl, ?_⟩
  refine TCX.call [0] hg ?_
  cbv
  (repeat (first | exact trivial | refine And.intro (Emb.Pur _ _) ?_ | refine And.intro rfl ?_ | refine And.intro (Pur.mk rfl) ?_))
  ((try cbv) <;> (repeat ((with_reducible refine EW.of ?_); cbv)))
  refine R1.of ?_
  cbv
  (repeat (first | exact trivial | refine And.intro (Emb.Pur _ _) ?_ | refine And.intro rfl ?_ | refine And.intro (Pur.mk rfl) ?_))
end Go.Proofs.Ytmbbdabcbnemiaa

/-! Steps behind bytes. -/
namespace Go.Proofs.Ytmbbdabcbnemiaa
open Go.Proofs.Ytmbbdabcbnemiaa.Tw
structure Stp where
  op : Int
  id : Int
  par : Int
  pl : Int
  text : ByteArray
  sub : Tree
def Stp.av : Stp → AV
  | ⟨op, id, par, pl, text, .node i k s ks⟩ => .agg [.int .i8 op, .int .i64 id, .int .i64 par, .int .i64 pl, .str text, .int .i64 i, .int .i64 k, .str s, .sl 4 (avs ks)]
theorem Stp.av_pur : ∀ x : Stp, x.av.pur = true
  | ⟨op, id, par, pl, text, .node i k s ks⟩ => by simp only [Stp.av, AV.pur, Tw.purL, Bool.true_and, Bool.and_true]; exact avs_pur ks
/-- Steps, not reckoned out. -/
structure EmS where
  l : Emb Stp
  ok : l.v = Stp.av
def emS0 : EmS := ⟨⟨Stp.av, _, fun _ => rfl, Stp.av_pur⟩, rfl⟩
theorem EmS.v (F : EmS) (E : Em) (op id par pl : Int) (text : ByteArray) (i k : Int) (s : ByteArray) (ks : List Tree) : F.l.v ⟨op, id, par, pl, text, .node i k s ks⟩ = .agg [.int .i8 op, .int .i64 id, .int .i64 par, .int .i64 pl, .str text, .int .i64 i, .int .i64 k, .str s, .sl 4 (E.tree.l ks)] := by
  rw [F.ok, Stp.av, E.trees]
theorem EmS.get (F : EmS) (E : Em) {l : List Stp} {j : Nat} {op id par pl : Int} {text : ByteArray} {i k : Int} {s : ByteArray} {ks : List Tree} (h : l[j]? = some ⟨op, id, par, pl, text, .node i k s ks⟩) : (F.l.l l)[j]? = some (.agg [.int .i8 op, .int .i64 id, .int .i64 par, .int .i64 pl, .str text, .int .i64 i, .int .i64 k, .str s, .sl 4 (E.tree.l ks)]) := by rw [F.l.get h, F.v E]
/-- A step's bytes. -/
def opB (op : Int) : UInt8 := UInt8.ofNat (IntKind.u8.wrap op).toNat
def stepBs (x : Stp) : List UInt8 := [opB x.op] ++ (numBs x.id ++ (numBs x.par ++ (numBs x.pl ++ ((numBs x.text.size ++ x.text.data.toList) ++ nodeBs x.sub))))
def stepsBs : List Stp → List UInt8
  | [] => []
  | x :: l => stepBs x ++ stepsBs l
theorem stepsBs_app : ∀ a b : List Stp, stepsBs (a ++ b) = stepsBs a ++ stepsBs b
  | [], b => rfl
  | t :: a, b => by simp only [List.cons_append, stepsBs, stepsBs_app a b, List.append_assoc]
theorem stepsBs_take {ks : List Stp} {j : Nat} {t : Stp} (h : ks[j]? = some t) : stepsBs (ks.take (j + 1)) = stepsBs (ks.take j) ++ stepBs t := by
  rw [List.take_add_one, h, stepsBs_app]
  show _ ++ (stepBs t ++ []) = _
  rw [List.append_nil]
theorem stepsBs_le (ks : List Stp) (j : Nat) : (stepsBs (ks.take j)).length ≤ (stepsBs ks).length := by
  conv => rhs; rw [← List.take_append_drop j ks, stepsBs_app, List.length_append]
  omega
theorem stepsBs_ge : ∀ ks : List Stp, ks.length ≤ (stepsBs ks).length
  | [] => Nat.le_refl _
  | x :: ts => by
    have := stepsBs_ge ts
    rw [stepsBs, stepBs]
    simp only [List.length_append, List.length_cons, List.length_nil]
    omega
theorem opB_op (A : Ar) (B : EmB) (op : Int) : AV.int .u8 (A.wrap .u8 op) = B.l.v (opB op) := by
  rw [B.ok, A.ok_wrap]
  show _ = AV.int .u8 ((UInt8.ofNat (IntKind.u8.wrap op).toNat).toNat : Int)
  rw [byte_ofInt (wrap_u8 _)]
set_option maxHeartbeats 4000000 in
theorem Step41 (A : Ar) (E : Em) (B : EmB) (F : EmS) {P : Program} (hP : P = Try.prog) (x : Stp) (xs r : List UInt8) (hr : xs ++ stepBs x = r) (hb : r.length ≤ 100000000) :
    TPure P 41 [.sl 1 (B.l.l xs), F.l.v x] (.sl 1 (B.l.l r)) := by
  obtain ⟨op, id, par, pl, text, i, k, s, ks⟩ := x
  rw [F.v E]
  have hrl := app_len hr
  have htx : text.data.toList.length = text.size := by rw [Array.length_toList]; rfl
  simp only [stepBs, List.length_append, numBs_len, htx] at hrl
  rw [stepBs] at hr
  obtain ⟨x0, hx0⟩ : ∃ x0, xs ++ [opB op] = x0 := ⟨_, rfl⟩
  obtain ⟨x1, hx1⟩ : ∃ x1, x0 ++ numBs id = x1 := ⟨_, rfl⟩
  obtain ⟨x2, hx2⟩ : ∃ x2, x1 ++ numBs par = x2 := ⟨_, rfl⟩
  obtain ⟨x3, hx3⟩ : ∃ x3, x2 ++ numBs pl = x3 := ⟨_, rfl⟩
  obtain ⟨x4, hx4⟩ : ∃ x4, x3 ++ (numBs text.size ++ text.data.toList) = x4 := ⟨_, rfl⟩
  rw [← List.append_assoc, hx0, ← List.append_assoc, hx1, ← List.append_assoc, hx2, ← List.append_assoc, hx3, ← List.append_assoc, hx4] at hr
  have hl0 := app_len hx0
  have hl1 := app_len hx1
  have hl2 := app_len hx2
  have hl3 := app_len hx3
  have hl4 := app_len hx4
  have hl5 := app_len hr
  rw [numBs_len] at hl1 hl2 hl3
  rw [text_len] at hl4
  rw [show [opB op].length = 1 from rfl] at hl0
  obtain ⟨q0, hq0⟩ : ∃ q, q = x0.length := ⟨_, rfl⟩
  have c1 := Number11 A B hP x0 (by omega) id x1 hx1
  have c2 := Number11 A B hP x1 (by omega) par x2 hx2
  have c3 := Number11 A B hP x2 (by omega) pl x3 hx3
  have c4 := Text13 A B hP x3 (by omega) text (by omega) x4 hx4
  have c5 := Node15 A E B hP _ (.node i k s ks) (Nat.le_refl _) x4 r hr hb
  rw [E.node] at c5
  have hes := opB_op A B op
  have hx0' : B.l.l x0 = B.l.l xs ++ [.int .u8 (A.wrap .u8 op)] := by rw [← hx0, B.l.app, B.l.cons, B.l.nil, hes]
  have hll := B.l.len xs
  refine TPure.ofE A T0 (T0_ok hP) (hP ▸ Try.func41) rfl _ rfl (by simp) ?_
  by_cases h0 : xs = []
  · subst h0
    rw [B.l.nil] at hx0' ⊢
    cbv
    ((try cbv) <;> (repeat ((with_reducible refine EW.of ?_); cbv)))
    refine ⟨⟨rfl⟩, q0, B.l.l x0, by rw [hq0, ← hx0]; rfl, by rw [hx0']; rfl, Nat.zero_le _, by show q0 * 1 ≤ _; omega, by omega, ?_⟩
    cbv
    refine EW.vs [(5, .sl 1 (B.l.l x0)), (4, .nils), (3, .imm [.int .i8 op, .int .i64 id, .int .i64 par, .int .i64 pl, .str text, .int .i64 i, .int .i64 k, .str s, .sl 4 (E.tree.l ks)])] [] 35 rfl ?_
    cbv
    (repeat (first | exact trivial | refine And.intro (Emb.Pur _ _) ?_ | refine And.intro (B.l.cut hq0) ?_ | refine And.intro rfl ?_ | refine And.intro (Pur.mk (by (repeat (first | exact rfl | exact Emb.purL _ _ | assumption | apply pur_cons | apply pur_sl | apply pur_slt | apply pur_agg | apply pur_tup)))) ?_))
    ((try cbv) <;> (repeat ((with_reducible refine EW.of ?_); cbv)))
    (refine ⟨Ent.of (hP ▸ Try.func11) rfl, ?_⟩; refine TC.pureE c1 ?_; cbv; (repeat (first | exact trivial | refine And.intro (Emb.Pur _ _) ?_ | refine And.intro rfl ?_ | refine And.intro (Pur.mk rfl) ?_ | refine And.intro (Pur.mk (by assumption)) ?_)); ((try cbv) <;> (repeat ((with_reducible refine EW.of ?_); cbv))))
    (refine ⟨Ent.of (hP ▸ Try.func11) rfl, ?_⟩; refine TC.pureE c2 ?_; cbv; (repeat (first | exact trivial | refine And.intro (Emb.Pur _ _) ?_ | refine And.intro rfl ?_ | refine And.intro (Pur.mk rfl) ?_ | refine And.intro (Pur.mk (by assumption)) ?_)); ((try cbv) <;> (repeat ((with_reducible refine EW.of ?_); cbv))))
    (refine ⟨Ent.of (hP ▸ Try.func11) rfl, ?_⟩; refine TC.pureE c3 ?_; cbv; (repeat (first | exact trivial | refine And.intro (Emb.Pur _ _) ?_ | refine And.intro rfl ?_ | refine And.intro (Pur.mk rfl) ?_ | refine And.intro (Pur.mk (by assumption)) ?_)); ((try cbv) <;> (repeat ((with_reducible refine EW.of ?_); cbv))))
    (refine ⟨Ent.of (hP ▸ Try.func13) rfl, ?_⟩; refine TC.pureE c4 ?_; cbv; (repeat (first | exact trivial | refine And.intro (Emb.Pur _ _) ?_ | refine And.intro rfl ?_ | refine And.intro (Pur.mk rfl) ?_ | refine And.intro (Pur.mk (by assumption)) ?_)); ((try cbv) <;> (repeat ((with_reducible refine EW.of ?_); cbv))))
    (refine ⟨Ent.of (hP ▸ Try.func15) rfl, ?_⟩; refine TC.pureE c5 ?_; cbv; (repeat (first | exact trivial | refine And.intro (Emb.Pur _ _) ?_ | refine And.intro rfl ?_ | refine And.intro (Pur.mk rfl) ?_ | refine And.intro (Pur.mk (by assumption)) ?_)); ((try cbv) <;> (repeat ((with_reducible refine EW.of ?_); cbv))))
    exact And.intro (B.l.Pur _) trivial
  · have hsc := B.scal xs
    have hne : B.l.l xs ≠ [] := fun e => h0 (List.eq_nil_of_length_eq_zero (by rw [← hll, e]; rfl))
    obtain ⟨k0, hk0⟩ : ∃ k, k = xs.length := ⟨_, rfl⟩
    cbv
    ((try cbv) <;> (repeat ((with_reducible refine EW.of ?_); cbv)))
    refine msplit (fun he => absurd he hne) (fun a al he => ?_)
    have he2 : a :: al = B.l.l xs := he.symm
    refine ⟨⟨by rw [he2]; exact hsc.h⟩, k0, B.l.l xs, by rw [he2, hll, Nat.zero_add, hk0], by rw [he2]; rfl, Nat.zero_le _, by show k0 * 1 ≤ _; omega, by omega, ?_⟩
    cbv
    ((try cbv) <;> (repeat ((with_reducible refine EW.of ?_); cbv)))
    refine ⟨⟨rfl⟩, q0, B.l.l x0, by rw [hq0, ← hx0, List.length_append, hk0]; rfl, by rw [hx0', List.take_of_length_le (show (B.l.l xs).length ≤ k0 by omega)], (show k0 ≤ (B.l.l xs).length by omega), by show q0 * 1 ≤ _; omega, by omega, ?_⟩
    cbv
    refine EW.vs [(5, .sl 1 (B.l.l x0)), (4, .nils), (3, .imm [.int .i8 op, .int .i64 id, .int .i64 par, .int .i64 pl, .str text, .int .i64 i, .int .i64 k, .str s, .sl 4 (E.tree.l ks)])] [] 35 rfl ?_
    cbv
    (repeat (first | exact trivial | refine And.intro (Emb.Pur _ _) ?_ | refine And.intro (B.l.cut hq0) ?_ | refine And.intro rfl ?_ | refine And.intro (Pur.mk (by (repeat (first | exact rfl | exact Emb.purL _ _ | assumption | apply pur_cons | apply pur_sl | apply pur_slt | apply pur_agg | apply pur_tup)))) ?_))
    ((try cbv) <;> (repeat ((with_reducible refine EW.of ?_); cbv)))
    (refine ⟨Ent.of (hP ▸ Try.func11) rfl, ?_⟩; refine TC.pureE c1 ?_; cbv; (repeat (first | exact trivial | refine And.intro (Emb.Pur _ _) ?_ | refine And.intro rfl ?_ | refine And.intro (Pur.mk rfl) ?_ | refine And.intro (Pur.mk (by assumption)) ?_)); ((try cbv) <;> (repeat ((with_reducible refine EW.of ?_); cbv))))
    (refine ⟨Ent.of (hP ▸ Try.func11) rfl, ?_⟩; refine TC.pureE c2 ?_; cbv; (repeat (first | exact trivial | refine And.intro (Emb.Pur _ _) ?_ | refine And.intro rfl ?_ | refine And.intro (Pur.mk rfl) ?_ | refine And.intro (Pur.mk (by assumption)) ?_)); ((try cbv) <;> (repeat ((with_reducible refine EW.of ?_); cbv))))
    (refine ⟨Ent.of (hP ▸ Try.func11) rfl, ?_⟩; refine TC.pureE c3 ?_; cbv; (repeat (first | exact trivial | refine And.intro (Emb.Pur _ _) ?_ | refine And.intro rfl ?_ | refine And.intro (Pur.mk rfl) ?_ | refine And.intro (Pur.mk (by assumption)) ?_)); ((try cbv) <;> (repeat ((with_reducible refine EW.of ?_); cbv))))
    (refine ⟨Ent.of (hP ▸ Try.func13) rfl, ?_⟩; refine TC.pureE c4 ?_; cbv; (repeat (first | exact trivial | refine And.intro (Emb.Pur _ _) ?_ | refine And.intro rfl ?_ | refine And.intro (Pur.mk rfl) ?_ | refine And.intro (Pur.mk (by assumption)) ?_)); ((try cbv) <;> (repeat ((with_reducible refine EW.of ?_); cbv))))
    (refine ⟨Ent.of (hP ▸ Try.func15) rfl, ?_⟩; refine TC.pureE c5 ?_; cbv; (repeat (first | exact trivial | refine And.intro (Emb.Pur _ _) ?_ | refine And.intro rfl ?_ | refine And.intro (Pur.mk rfl) ?_ | refine And.intro (Pur.mk (by assumption)) ?_)); ((try cbv) <;> (repeat ((with_reducible refine EW.of ?_); cbv))))
    exact And.intro (B.l.Pur _) trivial
end Go.Proofs.Ytmbbdabcbnemiaa

/-! A reader's steps. -/
namespace Go.Proofs.Ytmbbdabcbnemiaa
open Go.Proofs.Ytmbbdabcbnemiaa.Tw
def stepR (A : Ar) (bs : List UInt8) (a : Nat) : RR Stp :=
  (smallR A bs a).bind fun op a => (numR A bs a).bind fun id a => (numR A bs a).bind fun par a => (numR A bs a).bind fun pl a => (textR A bs a).bind fun s a => (nodeTR A bs a).bind fun t a => .ok ⟨op, id, par, pl, s, t⟩ a
theorem smallR_ok {A : Ar} {bs : List UInt8} {a a2 : Nat} {n : Int} (h : smallR A bs a = .ok n a2) : a2 ≤ bs.length := by
  unfold smallR at h
  cases ht : takeR bs a 1 with
  | ok l a3 => rw [ht] at h; cases h; exact (takeR_ok ht).2.2
  | no e a3 => rw [ht] at h; cases h
set_option maxHeartbeats 4000000 in
theorem step56 (A : Ar) (E : Em) (B : EmB) (F : EmS) {P : Program} (hP : P = Try.prog) (bs : List UInt8) (hl : bs.length ≤ 1000000000) (a : Nat) (ha : a ≤ bs.length) (bad : Int) :
    TCX P 56 [.ref 0 3 0 0] [some (rdr B bs a bad)] ((stepR A bs a).fin F.l.v) [some (rdr B bs (stepR A bs a).pos bad)] := by
  obtain ⟨R, hR⟩ : ∃ R, stepR A bs a = R := ⟨_, rfl⟩
  rw [hR]
  obtain ⟨x, hx⟩ : ∃ x, x = R.fin F.l.v := ⟨_, rfl⟩
  obtain ⟨M, hM⟩ : ∃ M, M = [some (rdr B bs R.pos bad)] := ⟨_, rfl⟩
  rw [← hx, ← hM]
  unfold stepR at hR
  refine TCX.of A _ _ T0 (T0_ok hP) (hP ▸ Try.func56) rfl _ rfl (by simp) ?_
  unfold rdr
  cbv
  ((try cbv) <;> (repeat ((with_reducible refine EW.of ?_); cbv)))
  have c0 := small46 A B hP bs hl a ha bad
  refine ⟨Ent.of (hP ▸ Try.func46) rfl, ?_⟩
  cases h0 : smallR A bs a with
  | no e a2 =>
    rw [h0] at c0 hR
    rw [← hR] at hx hM
    subst hx hM
    refine TCX.call [0] c0 ?_
    cbv
    (repeat (first | exact trivial | refine And.intro (Emb.Pur _ _) ?_ | refine And.intro rfl ?_ | refine And.intro (Pur.mk rfl) ?_))
    refine R1.of ?_
    cbv
    (repeat (first | exact trivial | refine And.intro (Emb.Pur _ _) ?_ | refine And.intro rfl ?_ | refine And.intro (Pur.mk rfl) ?_))
  | ok op a2 =>
  rw [h0] at c0 hR
  have ha2 := smallR_ok h0
  simp only [RR.bind] at hR
  refine TCX.call [0] c0 ?_
  cbv
  (repeat (first | exact trivial | refine And.intro (Emb.Pur _ _) ?_ | refine And.intro rfl ?_ | refine And.intro (Pur.mk rfl) ?_))
  ((try cbv) <;> (repeat ((with_reducible refine EW.of ?_); cbv)))
  have c1 := number43 A B hP bs hl a2 ha2 bad
  refine ⟨Ent.of (hP ▸ Try.func43) rfl, ?_⟩
  cases h1 : numR A bs a2 with
  | no e a3 =>
    rw [h1] at c1 hR
    rw [← hR] at hx hM
    subst hx hM
    refine TCX.call [0] c1 ?_
    cbv
    (repeat (first | exact trivial | refine And.intro (Emb.Pur _ _) ?_ | refine And.intro rfl ?_ | refine And.intro (Pur.mk rfl) ?_))
    refine R1.of ?_
    cbv
    (repeat (first | exact trivial | refine And.intro (Emb.Pur _ _) ?_ | refine And.intro rfl ?_ | refine And.intro (Pur.mk rfl) ?_))
  | ok id a3 =>
  rw [h1] at c1 hR
  have ha3 := (numR_ok h1).2
  simp only [RR.bind] at hR
  refine TCX.call [0] c1 ?_
  cbv
  (repeat (first | exact trivial | refine And.intro (Emb.Pur _ _) ?_ | refine And.intro rfl ?_ | refine And.intro (Pur.mk rfl) ?_))
  ((try cbv) <;> (repeat ((with_reducible refine EW.of ?_); cbv)))
  have c2 := number43 A B hP bs hl a3 ha3 bad
  refine ⟨Ent.of (hP ▸ Try.func43) rfl, ?_⟩
  cases h2 : numR A bs a3 with
  | no e a4 =>
    rw [h2] at c2 hR
    rw [← hR] at hx hM
    subst hx hM
    refine TCX.call [0] c2 ?_
    cbv
    (repeat (first | exact trivial | refine And.intro (Emb.Pur _ _) ?_ | refine And.intro rfl ?_ | refine And.intro (Pur.mk rfl) ?_))
    refine R1.of ?_
    cbv
    (repeat (first | exact trivial | refine And.intro (Emb.Pur _ _) ?_ | refine And.intro rfl ?_ | refine And.intro (Pur.mk rfl) ?_))
  | ok par a4 =>
  rw [h2] at c2 hR
  have ha4 := (numR_ok h2).2
  simp only [RR.bind] at hR
  refine TCX.call [0] c2 ?_
  cbv
  (repeat (first | exact trivial | refine And.intro (Emb.Pur _ _) ?_ | refine And.intro rfl ?_ | refine And.intro (Pur.mk rfl) ?_))
  ((try cbv) <;> (repeat ((with_reducible refine EW.of ?_); cbv)))
  have c3 := number43 A B hP bs hl a4 ha4 bad
  refine ⟨Ent.of (hP ▸ Try.func43) rfl, ?_⟩
  cases h3 : numR A bs a4 with
  | no e a5 =>
    rw [h3] at c3 hR
    rw [← hR] at hx hM
    subst hx hM
    refine TCX.call [0] c3 ?_
    cbv
    (repeat (first | exact trivial | refine And.intro (Emb.Pur _ _) ?_ | refine And.intro rfl ?_ | refine And.intro (Pur.mk rfl) ?_))
    refine R1.of ?_
    cbv
    (repeat (first | exact trivial | refine And.intro (Emb.Pur _ _) ?_ | refine And.intro rfl ?_ | refine And.intro (Pur.mk rfl) ?_))
  | ok pl a5 =>
  rw [h3] at c3 hR
  have ha5 := (numR_ok h3).2
  simp only [RR.bind] at hR
  refine TCX.call [0] c3 ?_
  cbv
  (repeat (first | exact trivial | refine And.intro (Emb.Pur _ _) ?_ | refine And.intro rfl ?_ | refine And.intro (Pur.mk rfl) ?_))
  ((try cbv) <;> (repeat ((with_reducible refine EW.of ?_); cbv)))
  have c4 := text48 A B hP bs hl a5 ha5 bad
  refine ⟨Ent.of (hP ▸ Try.func48) rfl, ?_⟩
  cases h4 : textR A bs a5 with
  | no e a6 =>
    rw [h4] at c4 hR
    rw [← hR] at hx hM
    subst hx hM
    refine TCX.call [0] c4 ?_
    cbv
    (repeat (first | exact trivial | refine And.intro (Emb.Pur _ _) ?_ | refine And.intro rfl ?_ | refine And.intro (Pur.mk rfl) ?_))
    refine R1.of ?_
    cbv
    (repeat (first | exact trivial | refine And.intro (Emb.Pur _ _) ?_ | refine And.intro rfl ?_ | refine And.intro (Pur.mk rfl) ?_))
  | ok s a6 =>
  rw [h4] at c4 hR
  have ha6 := textR_ok h4
  simp only [RR.bind] at hR
  refine TCX.call [0] c4 ?_
  cbv
  (repeat (first | exact trivial | refine And.intro (Emb.Pur _ _) ?_ | refine And.intro rfl ?_ | refine And.intro (Pur.mk rfl) ?_))
  ((try cbv) <;> (repeat ((with_reducible refine EW.of ?_); cbv)))
  have c5 := node50 A E B hP bs hl a6 ha6 bad
  refine ⟨Ent.of (hP ▸ Try.func50) rfl, ?_⟩
  cases h5 : nodeTR A bs a6 with
  | no e a7 =>
    rw [h5] at c5 hR
    rw [← hR] at hx hM
    subst hx hM
    refine TCX.call [0] c5 ?_
    cbv
    (repeat (first | exact trivial | refine And.intro (Emb.Pur _ _) ?_ | refine And.intro rfl ?_ | refine And.intro (Pur.mk rfl) ?_))
    refine R1.of ?_
    cbv
    (repeat (first | exact trivial | refine And.intro (Emb.Pur _ _) ?_ | refine And.intro rfl ?_ | refine And.intro (Pur.mk rfl) ?_))
  | ok t a7 =>
  rw [h5] at c5 hR
  have ha7 := nodeTR_ok ha6 h5
  simp only [RR.bind] at hR
  obtain ⟨i, k, st, ks⟩ := t
  replace c5 : TCX P _ _ _ (.ret (E.tree.v (.node i k st ks))) [some (rdr B bs a7 bad)] := c5
  rw [E.node] at c5
  replace hx : x = .ret (F.l.v ⟨op, id, par, pl, s, .node i k st ks⟩) := by rw [hx, ← hR]; rfl
  replace hM : M = [some (rdr B bs a7 bad)] := by rw [hM, ← hR]; rfl
  rw [F.v E] at hx
  subst hx hM
  refine TCX.call [0] c5 ?_
  cbv
  (repeat (first | exact trivial | refine And.intro (Emb.Pur _ _) ?_ | refine And.intro rfl ?_ | refine And.intro (Pur.mk rfl) ?_))
  ((try cbv) <;> (repeat ((with_reducible refine EW.of ?_); cbv)))
  refine R1.of ?_
  cbv
  (repeat (first | exact trivial | refine And.intro (Emb.Pur _ _) ?_ | refine And.intro rfl ?_ | refine And.intro (Pur.mk rfl) ?_))
end Go.Proofs.Ytmbbdabcbnemiaa

/-! A reader's rows of steps. -/
namespace Go.Proofs.Ytmbbdabcbnemiaa
open Go.Proofs.Ytmbbdabcbnemiaa.Tw
def rowS : Option (Nat × List Stp) → AV
  | none => .nils
  | some (m, _) => .row 1 9 0 m
def stS (F : EmS) (L : Store) : Option (Nat × List Stp) → Store
  | none => L
  | some (_, l) => L ++ [some (.arr 9 (F.l.l l))]
def outS : Option (Nat × List Stp) → List Stp
  | none => []
  | some (_, l) => l
def okS : Option (Nat × List Stp) → Prop
  | none => True
  | some (m, l) => m = l.length
set_option maxHeartbeats 2000000 in
theorem list54 (A : Ar) (E : Em) (B : EmB) (F : EmS) {P : Program} (hP : P = Try.prog) (bs : List UInt8) (bad : Int) (one : Nat → Nat → RN Stp)
    (h68 : ∀ c a, c ≤ 200 → a ≤ bs.length → TCX P 56 [.ref 0 3 0 0] [some (rdr B bs a bad)] ((one c a).fin F.l.v) [some (rdr B bs (one c a).pos bad)])
    (hgood : ∀ c a (x : Stp) c2 a2, c ≤ 200 → a ≤ bs.length → one c a = .ok x c2 a2 → c2 ≤ 200 ∧ a2 ≤ bs.length)
    (n : Nat) (hn : n ≤ 1000000000) (c a : Nat) (hc : c ≤ 200) (ha : a ≤ bs.length) (R : RN (List Stp)) (hR : listR one n c a = R) :
    TCX P 54 [.int .i64 n, .func (.func 56) [.ref 0 3 0 0] []] [some (rdr B bs a bad)] (R.fin fun ts => .sl 9 (F.l.l ts)) [some (rdr B bs R.pos bad)] := by
  obtain ⟨x, hx⟩ : ∃ x, x = R.fin fun ts => .sl 9 (F.l.l ts) := ⟨_, rfl⟩
  obtain ⟨M, hM⟩ : ∃ M, M = [some (rdr B bs R.pos bad)] := ⟨_, rfl⟩
  rw [← hx, ← hM]
  refine TCX.of A _ _ T0 (T0_ok hP) (hP ▸ Try.func54) rfl _ rfl (by simp) ?_
  unfold rdr
  cbv
  ((try cbv) <;> (repeat ((with_reducible refine EW.of ?_); cbv)))
  obtain ⟨S, hS⟩ : ∃ S : LI (Nat × Nat × Nat × Nat × Option (Nat × List Stp)), S = ⟨fun x => [(6, .int .i64 x.1), (5, .int .i64 n), (4, rowS x.2.2.2.2), (1, .func (.func 56) [.ref 0 3 0 0] [])], fun x => stS F [some (rdr B bs x.2.2.2.1 bad)] x.2.2.2.2, fun x => x.1 + x.2.1 = n ∧ x.2.2.1 ≤ 200 ∧ x.2.2.2.1 ≤ bs.length ∧ okS x.2.2.2.2 ∧ (outS x.2.2.2.2).length = x.1 ∧ R = (listR one x.2.1 x.2.2.1 x.2.2.2.1).pre (outS x.2.2.2.2), fun x => x.2.1⟩ := ⟨_, rfl⟩
  refine TW.loopM A (T0_ok hP) S _ rfl (0, n, c, a, none) ?_ ?_ ?_
  · rw [hS]; exact ⟨Nat.zero_add _, hc, ha, trivial, rfl, hR.symm.trans (RN.pre_nil _).symm⟩
  · rw [hS]
    cbv
    (repeat (first | exact trivial | refine And.intro (Emb.Pur _ _) ?_ | refine And.intro rfl ?_ | refine And.intro (Pur.mk rfl) ?_))
  rintro ⟨j, k, c1, a1, o⟩ hj l1 L1 e1 e2
  rw [hS] at hj e1 e2
  dsimp only at hj e1 e2
  obtain ⟨hj, hc1, ha1, hok, hlen, hinv⟩ := hj
  have h68' := h68 c1 a1 hc1 ha1
  have hg' := hgood c1 a1
  unfold rdr at h68'
  subst e1
  cases o with
  | none =>
    dsimp only [stS, rowS, outS, okS] at e2 hok hlen hinv ⊢
    subst e2
    unfold rdr
    cbv
    ((try cbv) <;> (repeat ((with_reducible refine EW.of ?_); cbv)))
    refine bsplit (fun h => ?_) (fun h => ?_)
    · have h : j < n := lt_nt h rfl rfl
      obtain ⟨k, rfl⟩ : ∃ k', k = k' + 1 := ⟨k - 1, by omega⟩
      ((try cbv) <;> (repeat ((with_reducible refine EW.of ?_); cbv)))
      refine ⟨Ent.of (hP ▸ Try.func56) rfl, ?_⟩
      cases hone : one c1 a1 with
      | no e c2 a2 =>
        rw [hone] at h68'
        replace h68' : TCX P 56 _ _ (.pan (failAV e)) [some (.box 3 (.agg [.sl 1 (B.l.l bs), .int .i64 a2, .int .i64 bad]))] := h68'
        rw [listR_no hone] at hinv
        subst hinv
        replace hx : x = .pan (failAV e) := hx
        replace hM : M = [some (.box 3 (.agg [.sl 1 (B.l.l bs), .int .i64 a2, .int .i64 bad]))] := hM
        unfold failAV at h68' hx
        subst hx hM
        refine TCX.call [0] h68' ?_
        cbv
        (repeat (first | exact trivial | refine And.intro (Emb.Pur _ _) ?_ | refine And.intro rfl ?_ | refine And.intro (Pur.mk rfl) ?_))
        refine R1.of ?_
        cbv
        (repeat (first | exact trivial | refine And.intro (Emb.Pur _ _) ?_ | refine And.intro rfl ?_ | refine And.intro (Pur.mk rfl) ?_))
      | ok t' c2 a2 =>
        rw [hone] at h68'
        replace h68' : TCX P 56 _ _ (.ret (F.l.v t')) [some (.box 3 (.agg [.sl 1 (B.l.l bs), .int .i64 a2, .int .i64 bad]))] := h68'
        have hg2 := hg' t' c2 a2 hc1 ha1 hone
        rw [listR_ok hone] at hinv
        obtain ⟨pv, hpv⟩ : ∃ pv, F.l.l [] = pv := ⟨_, rfl⟩
        obtain ⟨l1, hl1⟩ : ∃ d, d = [] ++ [t'] := ⟨_, rfl⟩
        rw [← hl1] at hinv
        obtain ⟨q1, hq1⟩ : ∃ q, q = l1.length := ⟨_, rfl⟩
        have hvl : F.l.l l1 = pv ++ [F.l.v t'] := by rw [hl1, F.l.app, hpv, F.l.cons, F.l.nil]
        have hq2 : q1 = j + 1 := by rw [hq1, hl1, List.length_append]; show _ + 1 = _; omega
        obtain ⟨op', id', par', pl', tx', i', k', s', ks'⟩ := t'
        rw [F.v E] at h68' hvl
        refine TCX.call [0] h68' ?_
        cbv
        (repeat (first | exact trivial | refine And.intro (Emb.Pur _ _) ?_ | refine And.intro rfl ?_ | refine And.intro (Pur.mk rfl) ?_))
        ((try cbv) <;> (repeat ((with_reducible refine EW.of ?_); cbv)))
        rw [← hpv, F.l.nil] at hvl
        refine ⟨⟨rfl⟩, q1, F.l.l l1, by rw [hq1, hl1]; rfl, by rw [hvl]; rfl, Nat.zero_le _, by omega, by omega, ?_⟩
        cbv
        ((try cbv) <;> (repeat ((with_reducible refine EW.of ?_); cbv)))
        refine LM.of (j + 1, k, c2, a2, some (q1, l1)) rfl ?_ ?_ ?_
        · rw [hS]; exact ⟨by show j + 1 + k = n; omega, hg2.1, hg2.2, hq1, by show l1.length = j + 1; omega, hinv⟩
        · rw [hS]; show k < k + 1; omega
        · rw [hS]
          cbv
          (repeat (first | exact trivial | refine And.intro (Emb.Pur _ _) ?_ | refine And.intro (inc_eq A (by omega)) ?_ | refine And.intro rfl ?_ | refine And.intro (Pur.mk rfl) ?_))
    · have h : n ≤ j := lt_nf h rfl rfl
      obtain rfl : k = 0 := by omega
      subst hinv
      replace hx : x = .ret (.sl 9 (F.l.l ([] ++ []))) := hx
      rw [List.nil_append, F.l.nil] at hx
      replace hM : M = [some (.box 3 (.agg [.sl 1 (B.l.l bs), .int .i64 a1, .int .i64 bad]))] := hM
      subst hx hM
      ((try cbv) <;> (repeat ((with_reducible refine EW.of ?_); cbv)))
      refine R1.of ?_
      cbv
      (repeat (first | exact trivial | refine And.intro (Emb.Pur _ _) ?_ | refine And.intro rfl ?_ | refine And.intro (F.l.cut hok) ?_ | refine And.intro (Pur.mk rfl) ?_))
  | some y =>
    obtain ⟨m, l⟩ := y
    dsimp only [stS, rowS, outS, okS] at e2 hok hlen hinv ⊢
    subst e2
    unfold rdr
    cbv
    ((try cbv) <;> (repeat ((with_reducible refine EW.of ?_); cbv)))
    refine bsplit (fun h => ?_) (fun h => ?_)
    · have h : j < n := lt_nt h rfl rfl
      obtain ⟨k, rfl⟩ : ∃ k', k = k' + 1 := ⟨k - 1, by omega⟩
      ((try cbv) <;> (repeat ((with_reducible refine EW.of ?_); cbv)))
      refine ⟨Ent.of (hP ▸ Try.func56) rfl, ?_⟩
      cases hone : one c1 a1 with
      | no e c2 a2 =>
        rw [hone] at h68'
        replace h68' : TCX P 56 _ _ (.pan (failAV e)) [some (.box 3 (.agg [.sl 1 (B.l.l bs), .int .i64 a2, .int .i64 bad]))] := h68'
        rw [listR_no hone] at hinv
        subst hinv
        replace hx : x = .pan (failAV e) := hx
        replace hM : M = [some (.box 3 (.agg [.sl 1 (B.l.l bs), .int .i64 a2, .int .i64 bad]))] := hM
        unfold failAV at h68' hx
        subst hx hM
        refine TCX.call [0] h68' ?_
        cbv
        (repeat (first | exact trivial | refine And.intro (Emb.Pur _ _) ?_ | refine And.intro rfl ?_ | refine And.intro (Pur.mk rfl) ?_))
        refine R1.of ?_
        cbv
        (repeat (first | exact trivial | refine And.intro (Emb.Pur _ _) ?_ | refine And.intro rfl ?_ | refine And.intro (Pur.mk rfl) ?_))
      | ok t' c2 a2 =>
        rw [hone] at h68'
        replace h68' : TCX P 56 _ _ (.ret (F.l.v t')) [some (.box 3 (.agg [.sl 1 (B.l.l bs), .int .i64 a2, .int .i64 bad]))] := h68'
        have hg2 := hg' t' c2 a2 hc1 ha1 hone
        rw [listR_ok hone] at hinv
        obtain ⟨pv, hpv⟩ : ∃ pv, F.l.l l = pv := ⟨_, rfl⟩
        obtain ⟨l1, hl1⟩ : ∃ d, d = l ++ [t'] := ⟨_, rfl⟩
        rw [← hl1] at hinv
        obtain ⟨q1, hq1⟩ : ∃ q, q = l1.length := ⟨_, rfl⟩
        have hvl : F.l.l l1 = pv ++ [F.l.v t'] := by rw [hl1, F.l.app, hpv, F.l.cons, F.l.nil]
        have hq2 : q1 = j + 1 := by rw [hq1, hl1, List.length_append]; show _ + 1 = _; omega
        obtain ⟨op', id', par', pl', tx', i', k', s', ks'⟩ := t'
        rw [F.v E] at h68' hvl
        refine TCX.call [0] h68' ?_
        cbv
        (repeat (first | exact trivial | refine And.intro (Emb.Pur _ _) ?_ | refine And.intro rfl ?_ | refine And.intro (Pur.mk rfl) ?_))
        ((try cbv) <;> (repeat ((with_reducible refine EW.of ?_); cbv)))
        have hll := F.l.len l
        rw [← hpv] at hvl
        refine ⟨⟨rfl⟩, q1, F.l.l l1, by rw [hq1, hl1, List.length_append, hok]; rfl, by rw [hvl, List.take_of_length_le (show (F.l.l l).length ≤ m by omega)], (show m ≤ (F.l.l l).length by omega), by omega, by omega, ?_⟩
        cbv
        ((try cbv) <;> (repeat ((with_reducible refine EW.of ?_); cbv)))
        refine LM.of (j + 1, k, c2, a2, some (q1, l1)) rfl ?_ ?_ ?_
        · rw [hS]; exact ⟨by show j + 1 + k = n; omega, hg2.1, hg2.2, hq1, by show l1.length = j + 1; omega, hinv⟩
        · rw [hS]; show k < k + 1; omega
        · rw [hS]
          cbv
          (repeat (first | exact trivial | refine And.intro (Emb.Pur _ _) ?_ | refine And.intro (inc_eq A (by omega)) ?_ | refine And.intro rfl ?_ | refine And.intro (Pur.mk rfl) ?_))
    · have h : n ≤ j := lt_nf h rfl rfl
      obtain rfl : k = 0 := by omega
      subst hinv
      replace hx : x = .ret (.sl 9 (F.l.l (l ++ []))) := hx
      rw [List.append_nil] at hx
      replace hM : M = [some (.box 3 (.agg [.sl 1 (B.l.l bs), .int .i64 a1, .int .i64 bad]))] := hM
      subst hx hM
      ((try cbv) <;> (repeat ((with_reducible refine EW.of ?_); cbv)))
      refine R1.of ?_
      cbv
      (repeat (first | exact trivial | refine And.intro (Emb.Pur _ _) ?_ | refine And.intro rfl ?_ | refine And.intro (F.l.cut hok) ?_ | refine And.intro (Pur.mk rfl) ?_))
end Go.Proofs.Ytmbbdabcbnemiaa

/-! A reader's steps and counts, asked for. -/
namespace Go.Proofs.Ytmbbdabcbnemiaa
open Go.Proofs.Ytmbbdabcbnemiaa.Tw
theorem stepR_ok {A : Ar} {bs : List UInt8} {a a2 : Nat} {x : Stp} (h : stepR A bs a = .ok x a2) : a2 ≤ bs.length := by
  unfold stepR at h
  cases h0 : smallR A bs a with
  | no e a3 => rw [h0] at h; cases h
  | ok op b0 =>
  rw [h0] at h
  simp only [RR.bind] at h
  cases h1 : numR A bs b0 with
  | no e a3 => rw [h1] at h; cases h
  | ok id b1 =>
  rw [h1] at h
  simp only at h
  cases h2 : numR A bs b1 with
  | no e a3 => rw [h2] at h; cases h
  | ok par b2 =>
  rw [h2] at h
  simp only at h
  cases h3 : numR A bs b2 with
  | no e a3 => rw [h3] at h; cases h
  | ok pl b3 =>
  rw [h3] at h
  simp only at h
  cases h4 : textR A bs b3 with
  | no e a3 => rw [h4] at h; cases h
  | ok s b4 =>
  rw [h4] at h
  simp only at h
  cases h5 : nodeTR A bs b4 with
  | no e a3 => rw [h5] at h; cases h
  | ok t b5 =>
  rw [h5] at h
  cases h
  exact nodeTR_ok (textR_ok h4) h5
def oneS (A : Ar) (bs : List UInt8) (c a : Nat) : RN Stp := (stepR A bs a).toN c
def stepsR (A : Ar) (bs : List UInt8) (a : Nat) : RR (List Stp) := (countR A bs a 57 60).bind fun n a2 => (listR (oneS A bs) n.toNat 0 a2).toR
theorem oneS_good {A : Ar} {bs : List UInt8} (c a : Nat) (x : Stp) (c2 a2 : Nat) (hc : c ≤ 200) (ha : a ≤ bs.length) (h : oneS A bs c a = .ok x c2 a2) : c2 ≤ 200 ∧ a2 ≤ bs.length := by
  unfold oneS at h
  cases hs : stepR A bs a with
  | no e a3 => rw [hs] at h; cases h
  | ok y a3 => rw [hs] at h; cases h; exact ⟨hc, stepR_ok hs⟩
set_option maxHeartbeats 1000000 in
theorem steps53 (A : Ar) (E : Em) (B : EmB) (F : EmS) {P : Program} (hP : P = Try.prog) (bs : List UInt8) (hl : bs.length ≤ 1000000000) (a : Nat) (ha : a ≤ bs.length) (bad : Int) :
    TCX P 53 [.ref 0 1 0 0] [some (.box 1 (.ref 1 3 0 0)), some (rdr B bs a bad)] ((stepsR A bs a).fin fun l => .sl 9 (F.l.l l)) [some (.box 1 (.ref 1 3 0 0)), some (rdr B bs (stepsR A bs a).pos bad)] := by
  obtain ⟨R, hR⟩ : ∃ R, stepsR A bs a = R := ⟨_, rfl⟩
  rw [hR]
  obtain ⟨x, hx⟩ : ∃ x, x = R.fin fun l => .sl 9 (F.l.l l) := ⟨_, rfl⟩
  obtain ⟨M, hM⟩ : ∃ M, M = [some (.box 1 (.ref 1 3 0 0)), some (rdr B bs R.pos bad)] := ⟨_, rfl⟩
  rw [← hx, ← hM]
  unfold stepsR at hR
  refine TCX.of A _ _ T0 (T0_ok hP) (hP ▸ Try.func53) rfl _ rfl (by simp) ?_
  unfold rdr
  cbv
  ((try cbv) <;> (repeat ((with_reducible refine EW.of ?_); cbv)))
  have h55 := count55 A B hP bs hl a ha bad 57 60
  cases h4 : countR A bs a 57 60 with
  | no e a5 =>
    rw [h4] at h55 hR
    rw [← hR] at hx hM
    subst hx hM
    (refine TW.drawE (A := A) true [some (.box 1 (.ref 1 3 0 0))] [some (.box 3 (.agg [.sl 1 (B.l.l bs), .int .i64 a, .int .i64 bad]))] [(1, [none])] rfl (T0_ok hP) (hP ▸ follows_mixed) (by kernel_rfl) rfl (by kernel_rfl) (by cbv) (by first | kernel_rfl | cbv) rfl rfl rfl ?_; cbv)
    refine And.intro (And.intro (Ent.of (hP ▸ Try.func55) rfl) ?_) trivial
    refine TCX.call [1] h55 ?_
    cbv
    (repeat (first | exact trivial | refine And.intro (Emb.Pur _ _) ?_ | refine And.intro rfl ?_ | refine And.intro (Pur.mk rfl) ?_))
    refine R1.of ?_
    cbv
    (repeat (first | exact trivial | refine And.intro (Emb.Pur _ _) ?_ | refine And.intro rfl ?_ | refine And.intro (Pur.mk rfl) ?_))
  | ok n a5 =>
  rw [h4] at h55 hR
  have hc4 := countR_ok hl h4
  obtain ⟨m, rfl⟩ : ∃ m : Nat, n = m := ⟨n.toNat, by omega⟩
  simp only [RR.bind, Int.toNat_natCast] at hR
  replace h55 : TC1 P _ _ _ (.int .i64 (m : Int)) [some (rdr B bs a5 bad)] := h55
  have h54 := list54 A E B F hP bs bad (oneS A bs) (fun c a hc ha => by
    have h := step56 A E B F hP bs hl a ha bad
    unfold oneS
    cases hs : stepR A bs a with
    | no e a3 => rw [hs] at h; exact h
    | ok y a3 => rw [hs] at h; exact h) oneS_good m (by omega) 0 a5 (Nat.zero_le _) hc4.2.1 _ rfl
  cases h5 : listR (oneS A bs) m 0 a5 with
  | no e c6 a6 =>
    rw [h5] at h54 hR
    rw [← hR] at hx hM
    subst hx hM
    (refine TW.drawE (A := A) true [some (.box 1 (.ref 1 3 0 0))] [some (.box 3 (.agg [.sl 1 (B.l.l bs), .int .i64 a, .int .i64 bad]))] [(1, [some (.box 3 (.agg [.sl 1 (B.l.l bs), .int .i64 a5, .int .i64 bad]))]), (4, [none])] rfl (T0_ok hP) (hP ▸ follows_mixed) (by kernel_rfl) rfl (by kernel_rfl) (by cbv) (by first | kernel_rfl | cbv) rfl rfl rfl ?_; cbv)
    refine And.intro (Ent.of (hP ▸ Try.func55) rfl) ⟨.int .i64 m, [some (.box 1 (.ref 1 3 0 0)), some (.box 3 (.agg [.sl 1 (B.l.l bs), .int .i64 a5, .int .i64 bad]))], TC1.call [1] h55 ?_, ⟨rfl, ?_⟩⟩
    · skip
      cbv
      (repeat (first | exact trivial | refine And.intro (Emb.Pur _ _) ?_ | refine And.intro rfl ?_ | refine And.intro (Pur.mk rfl) ?_))
    cbv
    refine And.intro (And.intro (Ent.of (hP ▸ Try.func54) rfl) ?_) trivial
    refine TCX.call [1] h54 ?_
    cbv
    (repeat (first | exact trivial | refine And.intro (Emb.Pur _ _) ?_ | refine And.intro rfl ?_ | refine And.intro (Pur.mk rfl) ?_))
    refine R1.of ?_
    cbv
    (repeat (first | exact trivial | refine And.intro (Emb.Pur _ _) ?_ | refine And.intro rfl ?_ | refine And.intro (Pur.mk rfl) ?_))
  | ok xs c6 a6 =>
  rw [h5] at h54 hR
  replace hx : x = .ret (.sl 9 (F.l.l xs)) := by rw [hx, ← hR]; rfl
  replace hM : M = [some (.box 1 (.ref 1 3 0 0)), some (rdr B bs a6 bad)] := by rw [hM, ← hR]; rfl
  replace h54 : TC1 P _ _ _ (.sl 9 (F.l.l xs)) [some (rdr B bs a6 bad)] := h54
  subst hx hM
  (refine TW.drawE (A := A) false [some (.box 1 (.ref 1 3 0 0))] [some (.box 3 (.agg [.sl 1 (B.l.l bs), .int .i64 a, .int .i64 bad]))] [(1, [some (.box 3 (.agg [.sl 1 (B.l.l bs), .int .i64 a5, .int .i64 bad]))]), (4, [some (.box 3 (.agg [.sl 1 (B.l.l bs), .int .i64 a6, .int .i64 bad]))])] rfl (T0_ok hP) (hP ▸ follows_mixed) (by kernel_rfl) rfl (by kernel_rfl) (by cbv) (by first | kernel_rfl | cbv) rfl rfl rfl ?_; cbv)
  refine And.intro (Ent.of (hP ▸ Try.func55) rfl) ⟨.int .i64 m, [some (.box 1 (.ref 1 3 0 0)), some (.box 3 (.agg [.sl 1 (B.l.l bs), .int .i64 a5, .int .i64 bad]))], TC1.call [1] h55 ?_, ⟨rfl, ?_⟩⟩
  · skip
    cbv
    (repeat (first | exact trivial | refine And.intro (Emb.Pur _ _) ?_ | refine And.intro rfl ?_ | refine And.intro (Pur.mk rfl) ?_))
  cbv
  refine And.intro (Ent.of (hP ▸ Try.func54) rfl) ⟨.sl 9 (F.l.l xs), [some (.box 1 (.ref 1 3 0 0)), some (.box 3 (.agg [.sl 1 (B.l.l bs), .int .i64 a6, .int .i64 bad]))], TC1.call [1] h54 ?_, ⟨rfl, ?_⟩⟩
  · skip
    cbv
    (repeat (first | exact trivial | refine And.intro (Emb.Pur _ _) ?_ | refine And.intro rfl ?_ | refine And.intro (Pur.mk rfl) ?_))
  cbv
  ((try cbv) <;> (repeat ((with_reducible refine EW.of ?_); cbv)))
  refine R1.of ?_
  cbv
  (repeat (first | exact trivial | refine And.intro (Emb.Pur _ _) ?_ | refine And.intro rfl ?_ | refine And.intro (Pur.mk rfl) ?_))
theorem count59 (A : Ar) (B : EmB) {P : Program} (hP : P = Try.prog) (bs : List UInt8) (hl : bs.length ≤ 1000000000) (a : Nat) (ha : a ≤ bs.length) (bad : Int) (size most : Int) :
    TCX P 59 [.ref 1 1 0 0, .ref 2 1 0 0, .ref 3 1 0 0] [some (rdr B bs a bad), some (.box 1 (.ref 0 3 0 0)), some (.box 1 (.int .i64 size)), some (.box 1 (.int .i64 most))] ((countR A bs a size most).fin fun n => .int .i64 n) [some (rdr B bs (countR A bs a size most).pos bad), some (.box 1 (.ref 0 3 0 0)), some (.box 1 (.int .i64 size)), some (.box 1 (.int .i64 most))] := by
  have h55 := count55 A B hP bs hl a ha bad size most
  generalize countR A bs a size most = r at h55 ⊢
  refine TCX.of A _ _ T0 (T0_ok hP) (hP ▸ Try.func59) rfl _ rfl (by simp) ?_
  unfold rdr
  cases r with
  | no e a2 =>
    cbv
    ((try cbv) <;> (repeat ((with_reducible refine EW.of ?_); cbv)))
    refine ⟨Ent.of (hP ▸ Try.func55) rfl, ?_⟩
    refine TCX.call [0] h55 ?_
    cbv
    (repeat (first | exact trivial | refine And.intro (Emb.Pur _ _) ?_ | refine And.intro rfl ?_ | refine And.intro (Pur.mk rfl) ?_))
    refine R1.of ?_
    cbv
    (repeat (first | exact trivial | refine And.intro (Emb.Pur _ _) ?_ | refine And.intro rfl ?_ | refine And.intro (Pur.mk rfl) ?_))
  | ok n a2 =>
    cbv
    ((try cbv) <;> (repeat ((with_reducible refine EW.of ?_); cbv)))
    refine ⟨Ent.of (hP ▸ Try.func55) rfl, ?_⟩
    refine TCX.call [0] h55 ?_
    cbv
    (repeat (first | exact trivial | refine And.intro (Emb.Pur _ _) ?_ | refine And.intro rfl ?_ | refine And.intro (Pur.mk rfl) ?_))
    ((try cbv) <;> (repeat ((with_reducible refine EW.of ?_); cbv)))
    refine R1.of ?_
    cbv
    (repeat (first | exact trivial | refine And.intro (Emb.Pur _ _) ?_ | refine And.intro rfl ?_ | refine And.intro (Pur.mk rfl) ?_))
end Go.Proofs.Ytmbbdabcbnemiaa

/-! Steps and counts, asked of a reader. -/
namespace Go.Proofs.Ytmbbdabcbnemiaa
open Go.Proofs.Ytmbbdabcbnemiaa.Tw
set_option maxHeartbeats 1000000 in
theorem askL (A : Ar) (F : EmS) (B : EmB) {P : Program} (hP : P = Try.prog) (bs : List UInt8) (a : Nat) (bad : Int) (r : RR (List Stp))
    (hg : TCX P 53 [.ref 0 1 0 0] [some (.box 1 (.ref 1 3 0 0)), some (rdr B bs a bad)] (r.fin fun l => .sl 9 (F.l.l l)) [some (.box 1 (.ref 1 3 0 0)), some (rdr B bs r.pos bad)]) (t : (List Stp)) (a2 : Nat) (bad2 : Int) (h : askR [] bs a bad r = (t, a2, bad2)) :
    TCX P 52 [.ref 0 3 0 0, .func (.func 53) [] [.ref 1 1 0 0]] [some (rdr B bs a bad), some (.box 1 (.ref 0 3 0 0))] (.ret (.sl 9 (F.l.l t))) [some (rdr B bs a2 bad2), some (.box 1 (.ref 0 3 0 0))] := by
  unfold askR at h
  by_cases h0 : 0 ≤ bad
  · rw [if_pos h0] at h
    cases h
    rw [F.l.nil]
    unfold rdr at *
    refine TCX.ofD A _ _ T0 (T0_ok hP) (hP ▸ Try.func52) rfl _ rfl (by simp) ?_
    refine EWD.seq ?_
    cbv
    refine EWD.seq ?_
    cbv
    ((try cbv) <;> (repeat ((with_reducible refine EW.of ?_); cbv)))
    refine byes (leT h0) ?_
    cbv
    ((try cbv) <;> (repeat ((with_reducible refine EW.of ?_); cbv)))
    refine R1.of ?_
    cbv
    (repeat (first | exact trivial | refine And.intro (Emb.Pur _ _) ?_ | refine And.intro rfl ?_ | refine And.intro (Pur.mk rfl) ?_))
  · rw [if_neg h0] at h
    have hb : bad < 0 := by omega
    cases r with
    | no e a3 =>
      cases h
      rw [F.l.nil]
      replace hg : TCX P 53 _ _ (.pan (failAV bad2)) [some (.box 1 (.ref 1 3 0 0)), some (rdr B bs a2 bad)] := hg
      unfold rdr failAV at *
      refine TCX.ofD A _ _ T0 (T0_ok hP) (hP ▸ Try.func52) rfl _ rfl (by simp) ?_
      refine EWD.seq ?_
      cbv
      refine EWD.seq ?_
      cbv
      ((try cbv) <;> (repeat ((with_reducible refine EW.of ?_); cbv)))
      refine bno (leF hb) ?_
      cbv
      ((try cbv) <;> (repeat ((with_reducible refine EW.of ?_); cbv)))
      refine EWD.defer ?_
      cbv
      refine ⟨Ent.of (hP ▸ Try.func53) rfl, ?_⟩
      refine TCX.call [1, 0] hg ?_
      cbv
      (repeat (first | exact trivial | refine And.intro (Emb.Pur _ _) ?_ | refine And.intro rfl ?_ | refine And.intro (Pur.mk rfl) ?_))
      ((try cbv) <;> (repeat ((with_reducible refine EW.of ?_); cbv)))
      refine ⟨Ent.of (hP ▸ Try.func69) rfl, ?_⟩
      refine DC.of A T0 (T0_ok hP) (hP ▸ Try.func69) rfl _ rfl (by simp) rfl rfl rfl rfl rfl ?_
      cbv
      ((try cbv) <;> (repeat ((with_reducible refine EW.of ?_); cbv)))
      refine R1.of ?_
      cbv
      (repeat (first | exact trivial | refine And.intro (Emb.Pur _ _) ?_ | refine And.intro rfl ?_ | refine And.intro (Pur.mk rfl) ?_))
    | ok v a3 =>
      cases h
      replace hg : TCX P 53 _ _ (.ret (.sl 9 (F.l.l t))) [some (.box 1 (.ref 1 3 0 0)), some (rdr B bs a2 bad)] := hg
      unfold rdr at *
      refine TCX.ofD A _ _ T0 (T0_ok hP) (hP ▸ Try.func52) rfl _ rfl (by simp) ?_
      refine EWD.seq ?_
      cbv
      refine EWD.seq ?_
      cbv
      ((try cbv) <;> (repeat ((with_reducible refine EW.of ?_); cbv)))
      refine bno (leF hb) ?_
      cbv
      ((try cbv) <;> (repeat ((with_reducible refine EW.of ?_); cbv)))
      refine EWD.defer ?_
      cbv
      refine ⟨Ent.of (hP ▸ Try.func53) rfl, ?_⟩
      refine TCX.call [1, 0] hg ?_
      cbv
      (repeat (first | exact trivial | refine And.intro (Emb.Pur _ _) ?_ | refine And.intro rfl ?_ | refine And.intro (Pur.mk rfl) ?_))
      ((try cbv) <;> (repeat ((with_reducible refine EW.of ?_); cbv)))
      refine ⟨Ent.of (hP ▸ Try.func69) rfl, ?_⟩
      refine DC.of A T0 (T0_ok hP) (hP ▸ Try.func69) rfl _ rfl (by simp) rfl rfl rfl rfl rfl ?_
      cbv
      ((try cbv) <;> (repeat ((with_reducible refine EW.of ?_); cbv)))
      refine R1.of ?_
      cbv
      (repeat (first | exact trivial | refine And.intro (Emb.Pur _ _) ?_ | refine And.intro rfl ?_ | refine And.intro (Pur.mk rfl) ?_))
set_option maxHeartbeats 1000000 in
theorem askC (A : Ar) (size most : Int) (B : EmB) {P : Program} (hP : P = Try.prog) (bs : List UInt8) (a : Nat) (bad : Int) (r : RR Int)
    (hg : TCX P 59 [.ref 1 1 0 0, .ref 2 1 0 0, .ref 3 1 0 0] [some (rdr B bs a bad), some (.box 1 (.ref 0 3 0 0)), some (.box 1 (.int .i64 size)), some (.box 1 (.int .i64 most))] (r.fin fun n => .int .i64 n) [some (rdr B bs r.pos bad), some (.box 1 (.ref 0 3 0 0)), some (.box 1 (.int .i64 size)), some (.box 1 (.int .i64 most))]) (t : Int) (a2 : Nat) (bad2 : Int) (h : askR 0 bs a bad r = (t, a2, bad2)) :
    TCX P 42 [.ref 0 3 0 0, .func (.func 59) [] [.ref 1 1 0 0, .ref 2 1 0 0, .ref 3 1 0 0]] [some (rdr B bs a bad), some (.box 1 (.ref 0 3 0 0)), some (.box 1 (.int .i64 size)), some (.box 1 (.int .i64 most))] (.ret (.int .i64 t)) [some (rdr B bs a2 bad2), some (.box 1 (.ref 0 3 0 0)), some (.box 1 (.int .i64 size)), some (.box 1 (.int .i64 most))] := by
  unfold askR at h
  by_cases h0 : 0 ≤ bad
  · rw [if_pos h0] at h
    cases h
    skip
    unfold rdr at *
    refine TCX.ofD A _ _ T0 (T0_ok hP) (hP ▸ Try.func42) rfl _ rfl (by simp) ?_
    refine EWD.seq ?_
    cbv
    refine EWD.seq ?_
    cbv
    ((try cbv) <;> (repeat ((with_reducible refine EW.of ?_); cbv)))
    refine byes (leT h0) ?_
    cbv
    ((try cbv) <;> (repeat ((with_reducible refine EW.of ?_); cbv)))
    refine R1.of ?_
    cbv
    (repeat (first | exact trivial | refine And.intro (Emb.Pur _ _) ?_ | refine And.intro rfl ?_ | refine And.intro (Pur.mk rfl) ?_))
  · rw [if_neg h0] at h
    have hb : bad < 0 := by omega
    cases r with
    | no e a3 =>
      cases h
      skip
      replace hg : TCX P 59 _ _ (.pan (failAV bad2)) [some (rdr B bs a2 bad), some (.box 1 (.ref 0 3 0 0)), some (.box 1 (.int .i64 size)), some (.box 1 (.int .i64 most))] := hg
      unfold rdr failAV at *
      refine TCX.ofD A _ _ T0 (T0_ok hP) (hP ▸ Try.func42) rfl _ rfl (by simp) ?_
      refine EWD.seq ?_
      cbv
      refine EWD.seq ?_
      cbv
      ((try cbv) <;> (repeat ((with_reducible refine EW.of ?_); cbv)))
      refine bno (leF hb) ?_
      cbv
      ((try cbv) <;> (repeat ((with_reducible refine EW.of ?_); cbv)))
      refine EWD.defer ?_
      cbv
      refine ⟨Ent.of (hP ▸ Try.func59) rfl, ?_⟩
      refine TCX.call [0, 1, 2, 3] hg ?_
      cbv
      (repeat (first | exact trivial | refine And.intro (Emb.Pur _ _) ?_ | refine And.intro rfl ?_ | refine And.intro (Pur.mk rfl) ?_))
      ((try cbv) <;> (repeat ((with_reducible refine EW.of ?_); cbv)))
      refine ⟨Ent.of (hP ▸ Try.func61) rfl, ?_⟩
      refine DC.of A T0 (T0_ok hP) (hP ▸ Try.func61) rfl _ rfl (by simp) rfl rfl rfl rfl rfl ?_
      cbv
      ((try cbv) <;> (repeat ((with_reducible refine EW.of ?_); cbv)))
      refine R1.of ?_
      cbv
      (repeat (first | exact trivial | refine And.intro (Emb.Pur _ _) ?_ | refine And.intro rfl ?_ | refine And.intro (Pur.mk rfl) ?_))
    | ok v a3 =>
      cases h
      replace hg : TCX P 59 _ _ (.ret (.int .i64 t)) [some (rdr B bs a2 bad), some (.box 1 (.ref 0 3 0 0)), some (.box 1 (.int .i64 size)), some (.box 1 (.int .i64 most))] := hg
      unfold rdr at *
      refine TCX.ofD A _ _ T0 (T0_ok hP) (hP ▸ Try.func42) rfl _ rfl (by simp) ?_
      refine EWD.seq ?_
      cbv
      refine EWD.seq ?_
      cbv
      ((try cbv) <;> (repeat ((with_reducible refine EW.of ?_); cbv)))
      refine bno (leF hb) ?_
      cbv
      ((try cbv) <;> (repeat ((with_reducible refine EW.of ?_); cbv)))
      refine EWD.defer ?_
      cbv
      refine ⟨Ent.of (hP ▸ Try.func59) rfl, ?_⟩
      refine TCX.call [0, 1, 2, 3] hg ?_
      cbv
      (repeat (first | exact trivial | refine And.intro (Emb.Pur _ _) ?_ | refine And.intro rfl ?_ | refine And.intro (Pur.mk rfl) ?_))
      ((try cbv) <;> (repeat ((with_reducible refine EW.of ?_); cbv)))
      refine ⟨Ent.of (hP ▸ Try.func61) rfl, ?_⟩
      refine DC.of A T0 (T0_ok hP) (hP ▸ Try.func61) rfl _ rfl (by simp) rfl rfl rfl rfl rfl ?_
      cbv
      ((try cbv) <;> (repeat ((with_reducible refine EW.of ?_); cbv)))
      refine R1.of ?_
      cbv
      (repeat (first | exact trivial | refine And.intro (Emb.Pur _ _) ?_ | refine And.intro rfl ?_ | refine And.intro (Pur.mk rfl) ?_))
set_option maxHeartbeats 1000000 in
theorem Steps29 (A : Ar) (E : Em) (B : EmB) (F : EmS) {P : Program} (hP : P = Try.prog) (bs : List UInt8) (hl : bs.length ≤ 1000000000) (a : Nat) (ha : a ≤ bs.length) (bad : Int) (t : List Stp) (a2 : Nat) (bad2 : Int) (h : askR [] bs a bad (stepsR A bs a) = (t, a2, bad2)) :
    TC1 P 29 [.ref 0 3 0 0] [some (rdr B bs a bad)] (.sl 9 (F.l.l t)) [some (rdr B bs a2 bad2)] := by
  have h52 := askL A F B hP bs a bad _ (steps53 A E B F hP bs hl a ha bad) t a2 bad2 h
  unfold rdr at *
  refine TC1.of A _ _ T0 (T0_ok hP) (hP ▸ Try.func29) rfl _ rfl (by simp) ?_
  cbv
  ((try cbv) <;> (repeat ((with_reducible refine EW.of ?_); cbv)))
  refine ⟨Ent.of (hP ▸ Try.func52) rfl, ?_⟩
  refine TCX.call [0, 1] h52 ?_
  cbv
  (repeat (first | exact trivial | refine And.intro (Emb.Pur _ _) ?_ | refine And.intro rfl ?_ | refine And.intro (Pur.mk rfl) ?_))
  ((try cbv) <;> (repeat ((with_reducible refine EW.of ?_); cbv)))
  refine R1.of ?_
  cbv
  (repeat (first | exact trivial | refine And.intro (Emb.Pur _ _) ?_ | refine And.intro rfl ?_ | refine And.intro (Pur.mk rfl) ?_))
theorem Count32 (A : Ar) (B : EmB) {P : Program} (hP : P = Try.prog) (bs : List UInt8) (hl : bs.length ≤ 1000000000) (a : Nat) (ha : a ≤ bs.length) (bad : Int) (size most : Int) (t : Int) (a2 : Nat) (bad2 : Int) (h : askR 0 bs a bad (countR A bs a size most) = (t, a2, bad2)) :
    TC1 P 32 [.ref 0 3 0 0, .int .i64 size, .int .i64 most] [some (rdr B bs a bad)] (.int .i64 t) [some (rdr B bs a2 bad2)] := by
  have h42 := askC A size most B hP bs a bad _ (count59 A B hP bs hl a ha bad size most) t a2 bad2 h
  unfold rdr at *
  refine TC1.of A _ _ T0 (T0_ok hP) (hP ▸ Try.func32) rfl _ rfl (by simp) ?_
  cbv
  ((try cbv) <;> (repeat ((with_reducible refine EW.of ?_); cbv)))
  refine ⟨Ent.of (hP ▸ Try.func42) rfl, ?_⟩
  refine TCX.call [0, 1, 2, 3] h42 ?_
  cbv
  (repeat (first | exact trivial | refine And.intro (Emb.Pur _ _) ?_ | refine And.intro rfl ?_ | refine And.intro (Pur.mk rfl) ?_))
  ((try cbv) <;> (repeat ((with_reducible refine EW.of ?_); cbv)))
  refine R1.of ?_
  cbv
  (repeat (first | exact trivial | refine And.intro (Emb.Pur _ _) ?_ | refine And.intro rfl ?_ | refine And.intro (Pur.mk rfl) ?_))
end Go.Proofs.Ytmbbdabcbnemiaa

/-! The reference's reader. -/
namespace Go.Proofs.Ytmbbdabcbnemiaa
open Go.Proofs.Ytmbbdabcbnemiaa.Tw
def rdrF (B : EmB) (bs : List UInt8) (at' bad c : Int) : AO := .box 4 (.agg [.sl 1 (B.l.l bs), .int .i64 at', .int .i64 bad, .int .i64 c])
theorem New19 (A : Ar) (B : EmB) {P : Program} (hP : P = Try.prog) (bs : List UInt8) : TC1 P 19 [.sl 1 (B.l.l bs)] [] (.ref 0 4 0 0) [some (rdrF B bs 0 (-1) 0)] := by
  unfold rdrF
  refine TC1.of A _ _ T0 (T0_ok hP) (hP ▸ Try.func19) rfl _ rfl (by simp) ?_
  cbv
  ((try cbv) <;> (repeat ((with_reducible refine EW.of ?_); cbv)))
  refine R1.of ?_
  cbv
  (repeat (first | exact trivial | refine And.intro (Emb.Pur _ _) ?_ | refine And.intro rfl ?_ | refine And.intro (Pur.mk rfl) ?_))
theorem fails44 (A : Ar) (B : EmB) {P : Program} (hP : P = Try.prog) (bs : List UInt8) (a bad c : Int) (hb : bad < 0) (e : Int) : TC1 P 44 [.ref 0 4 0 0, .int .i64 e] [some (rdrF B bs a bad c)] (.tup []) [some (rdrF B bs a e c)] := by
  unfold rdrF
  refine TC1.of A _ _ T0 (T0_ok hP) (hP ▸ Try.func44) rfl _ rfl (by simp) ?_
  cbv
  ((try cbv) <;> (repeat ((with_reducible refine EW.of ?_); cbv)))
  refine byes (show A.lt bad 0 = true from ltT hb) ?_
  ((try cbv) <;> (repeat ((with_reducible refine EW.of ?_); cbv)))
  refine R1.of ?_
  cbv
  (repeat (first | exact trivial | refine And.intro (Emb.Pur _ _) ?_ | refine And.intro rfl ?_ | refine And.intro (Pur.mk rfl) ?_))
theorem End35 (A : Ar) (B : EmB) {P : Program} (hP : P = Try.prog) (bs : List UInt8) (a : Nat) (bad c : Int) (x y : Int) (h : endR bs a bad = (x, y)) :
    TC1 P 35 [.ref 0 4 0 0] [some (rdrF B bs a bad c)] (.tup [.int .i64 x, .int .i64 y]) [some (rdrF B bs a bad c)] := by
  refine TC1.of A _ _ T0 (T0_ok hP) (hP ▸ Try.func35) rfl _ rfl (by simp) ?_
  have hll := B.l.len bs
  unfold endR at h
  unfold rdrF
  cbv
  ((try cbv) <;> (repeat ((with_reducible refine EW.of ?_); cbv)))
  by_cases h1 : 0 ≤ bad
  · rw [if_pos h1] at h
    refine byes (leT h1) ?_
    cases h
    ((try cbv) <;> (repeat ((with_reducible refine EW.of ?_); cbv)))
    refine R1.of ?_
    cbv
    (repeat (first | exact trivial | refine And.intro (Emb.Pur _ _) ?_ | refine And.intro rfl ?_))
  rw [if_neg h1] at h
  refine bno (leF (Int.not_le.1 h1)) ?_
  ((try cbv) <;> (repeat ((with_reducible refine EW.of ?_); cbv)))
  (refine TW.draw (A := A) (T0_ok hP) (hP ▸ follows_mixed) (by kernel_rfl) rfl ?_; cbv)
  ((try cbv) <;> (repeat ((with_reducible refine EW.of ?_); cbv)))
  by_cases h2 : a < bs.length
  · rw [if_pos h2] at h
    refine byes (show A.lt (a : Int) (A.len (B.l.l bs)) = true from ltT (by rw [A.ok_len, hll]; omega)) ?_
    cases h
    ((try cbv) <;> (repeat ((with_reducible refine EW.of ?_); cbv)))
    refine R1.of ?_
    cbv
    (repeat (first | exact trivial | refine And.intro (Emb.Pur _ _) ?_ | refine And.intro rfl ?_))
  rw [if_neg h2] at h
  refine bno (show A.lt (a : Int) (A.len (B.l.l bs)) = false from ltF (by rw [A.ok_len, hll]; omega)) ?_
  cases h
  ((try cbv) <;> (repeat ((with_reducible refine EW.of ?_); cbv)))
  refine R1.of ?_
  cbv
  (repeat (first | exact trivial | refine And.intro (Emb.Pur _ _) ?_ | refine And.intro rfl ?_))
theorem bs_get {bs : List UInt8} {a n j : Nat} (hj : j < n) : ((bs.drop a).take n)[j]? = bs[a + j]? := by
  rw [List.getElem?_take_of_lt hj, List.getElem?_drop]
set_option maxHeartbeats 2000000 in
theorem Number21 (A : Ar) (B : EmB) {P : Program} (hP : P = Try.prog) (bs : List UInt8) (hl : bs.length ≤ 1000000000) (a : Nat) (ha : a ≤ bs.length) (bad c : Int) (v : Int) (a2 : Nat) (bad2 : Int) (h : askR 0 bs a bad (numR A bs a) = (v, a2, bad2)) :
    TC1 P 21 [.ref 0 4 0 0] [some (rdrF B bs a bad c)] (.int .i64 v) [some (rdrF B bs a2 bad2 c)] := by
  refine TC1.of A _ _ T0 (T0_ok hP) (hP ▸ Try.func21) rfl _ rfl (by simp) ?_
  have hll := B.l.len bs
  have hlk : A.len (B.l.l bs) = (bs.length : Int) := by rw [A.ok_len, hll]
  unfold askR at h
  by_cases h0 : 0 ≤ bad
  · rw [if_pos h0] at h
    cases h
    unfold rdrF
    cbv
    ((try cbv) <;> (repeat ((with_reducible refine EW.of ?_); cbv)))
    refine byes (leT h0) ?_
    ((try cbv) <;> (repeat ((with_reducible refine EW.of ?_); cbv)))
    refine R1.of ?_
    cbv
    (repeat (first | exact trivial | refine And.intro (Emb.Pur _ _) ?_ | refine And.intro rfl ?_ | refine And.intro (Pur.mk rfl) ?_))
  rw [if_neg h0] at h
  have hb : bad < 0 := by omega
  have hsub : A.op .sub .i64 (A.len (B.l.l bs)) (a : Int) = ((bs.length - a : Nat) : Int) := by rw [hlk, sub_i64 rfl rfl (by omega) (by omega)]; omega
  unfold numR takeR at h
  by_cases h1 : a + 8 ≤ bs.length
  · rw [if_pos h1] at h
    obtain ⟨l, hl8⟩ : ∃ l, l = (bs.drop a).take 8 := ⟨_, rfl⟩
    have hlen : l.length = 8 := by rw [hl8, List.length_take, List.length_drop]; omega
    have hget : ∀ j, j < 8 → bs[a + j]? = l[j]? := fun j hj => by rw [hl8, bs_get hj]
    simp only [RR.bind, ← hl8] at h
    obtain ⟨rfl, rfl, rfl⟩ : A.wrap .i64 (foldN A 0 l) = v ∧ a + 8 = a2 ∧ bad = bad2 := by
      cases h; exact ⟨rfl, rfl, rfl⟩
    have h8 : (8 : Int) ≤ ((bs.length - a : Nat) : Int) := by omega
    clear h hl8
    obtain ⟨res, hres⟩ : ∃ res, A.wrap .i64 (foldN A 0 l) = res := ⟨_, rfl⟩
    obtain ⟨a8, ha8⟩ : ∃ a8, a8 = a + 8 := ⟨_, rfl⟩
    have hadd : A.op .add .i64 (a : Int) 8 = (a8 : Int) := by rw [add_i64 rfl rfl (by omega) (by omega)]; omega
    rw [hres, ← ha8]
    unfold rdrF
    cbv
    ((try cbv) <;> (repeat ((with_reducible refine EW.of ?_); cbv)))
    refine bno (leF hb) ?_
    ((try cbv) <;> (repeat ((with_reducible refine EW.of ?_); cbv)))
    (refine TW.draw (A := A) (T0_ok hP) (hP ▸ follows_mixed) (by kernel_rfl) rfl ?_; cbv)
    ((try cbv) <;> (repeat ((with_reducible refine EW.of ?_); cbv)))
    refine bno (show A.lt (A.op .sub .i64 (A.len (B.l.l bs)) (a : Int)) 8 = false by rw [hsub]; exact ltF h8) ?_
    ((try cbv) <;> (repeat ((with_reducible refine EW.of ?_); cbv)))
    obtain ⟨S, hS⟩ : ∃ S : LI (Nat × Int), S = ⟨fun x => [(4, .int .i64 x.1), (3, .int .u64 x.2), (2, .int .i64 0), (0, .ref 0 4 0 0)], fun _ => [some (.box 4 (.agg [.sl 1 (B.l.l bs), .int .i64 a, .int .i64 bad, .int .i64 c]))], fun x => x.1 ≤ 8 ∧ A.wrap .i64 (foldN A x.2 (l.drop x.1)) = res, fun x => 8 - x.1⟩ := ⟨_, rfl⟩
    refine TW.loopM A (T0_ok hP) S _ rfl (0, 0) ?_ ?_ ?_
    · rw [hS]; exact ⟨Nat.zero_le _, hres⟩
    · rw [hS]
      cbv
      (repeat (first | exact trivial | refine And.intro (Emb.Pur _ _) ?_ | refine And.intro rfl ?_ | refine And.intro (Pur.mk rfl) ?_))
    rintro ⟨j, n⟩ hj l1 L1 e1 e2
    rw [hS] at hj e1 e2
    dsimp only at hj e1 e2
    obtain ⟨hj, hinv⟩ := hj
    subst e1 e2
    cbv
    ((try cbv) <;> (repeat ((with_reducible refine EW.of ?_); cbv)))
    refine bsplit (fun h => ?_) (fun h => ?_)
    · have h : j < 8 := lt_nt (j := 8) h rfl rfl
      obtain ⟨x, hx⟩ : ∃ x, l[j]? = some x := ⟨_, List.getElem?_eq_getElem (by omega)⟩
      rw [foldN_drop hx] at hinv
      obtain ⟨n2, hn2⟩ : ∃ n2, n2 = stepN A n x := ⟨_, rfl⟩
      rw [← hn2] at hinv
      have hbx : bs[a + j]? = some x := by rw [hget j h, hx]
      have haj : A.op .add .i64 (a : Int) (j : Int) = ((a + j : Nat) : Int) := by rw [add_i64 rfl rfl (by omega) (by omega)]; omega
      obtain ⟨k, hk⟩ : ∃ k, k = a + j := ⟨_, rfl⟩
      rw [← hk] at hbx haj
      ((try cbv) <;> (repeat ((with_reducible refine EW.of ?_); cbv)))
      (refine TW.draw (A := A) (T0_ok hP) (hP ▸ follows_mixed) (by kernel_rfl) rfl ?_; cbv)
      refine ⟨by decide, ?_⟩
      refine ⟨k, _, haj, B.get hbx, ?_⟩
      cbv
      ((try cbv) <;> (repeat ((with_reducible refine EW.of ?_); cbv)))
      refine LM.of (j + 1, n2) rfl ?_ ?_ ?_
      · rw [hS]; exact ⟨by show j + 1 ≤ _; omega, hinv⟩
      · rw [hS]; show 8 - (j + 1) < 8 - j; omega
      · rw [hS]
        cbv
        (repeat (first | exact trivial | refine And.intro (Emb.Pur _ _) ?_ | refine And.intro (inc_eq A (by omega)) ?_ | refine And.intro rfl ?_ | refine And.intro hn2.symm ?_))
    · have h : 8 ≤ j := lt_nf (j := 8) h rfl rfl
      rw [List.drop_eq_nil_of_le (by omega)] at hinv
      ((try cbv) <;> (repeat ((with_reducible refine EW.of ?_); cbv)))
      refine R1.of ?_
      cbv
      (repeat (first | exact trivial | refine And.intro (Emb.Pur _ _) ?_ | refine And.intro hinv ?_ | refine And.intro hadd ?_ | refine And.intro rfl ?_))
  · rw [if_neg h1] at h
    have h8 : ((bs.length - a : Nat) : Int) < 8 := by omega
    cases h
    have h44 := fails44 A B hP bs a bad c hb (A.len (B.l.l bs))
    rw [← hlk]
    unfold rdrF at *
    cbv
    ((try cbv) <;> (repeat ((with_reducible refine EW.of ?_); cbv)))
    refine bno (leF hb) ?_
    ((try cbv) <;> (repeat ((with_reducible refine EW.of ?_); cbv)))
    (refine TW.draw (A := A) (T0_ok hP) (hP ▸ follows_mixed) (by kernel_rfl) rfl ?_; cbv)
    ((try cbv) <;> (repeat ((with_reducible refine EW.of ?_); cbv)))
    refine byes (show A.lt (A.op .sub .i64 (A.len (B.l.l bs)) (a : Int)) 8 = true by rw [hsub]; exact ltT h8) ?_
    ((try cbv) <;> (repeat ((with_reducible refine EW.of ?_); cbv)))
    refine ⟨Ent.of (hP ▸ Try.func44) rfl, ?_⟩
    refine TC1.call [0] h44 ?_
    cbv
    (repeat (first | exact trivial | refine And.intro (Emb.Pur _ _) ?_ | refine And.intro rfl ?_ | refine And.intro (Pur.mk rfl) ?_))
    ((try cbv) <;> (repeat ((with_reducible refine EW.of ?_); cbv)))
    refine R1.of ?_
    cbv
    (repeat (first | exact trivial | refine And.intro (Emb.Pur _ _) ?_ | refine And.intro rfl ?_ | refine And.intro (Pur.mk rfl) ?_))
end Go.Proofs.Ytmbbdabcbnemiaa

/-! The reference's small numbers, counts, texts. -/
namespace Go.Proofs.Ytmbbdabcbnemiaa
open Go.Proofs.Ytmbbdabcbnemiaa.Tw
set_option maxHeartbeats 2000000 in
theorem Small23 (A : Ar) (B : EmB) {P : Program} (hP : P = Try.prog) (bs : List UInt8) (hl : bs.length ≤ 1000000000) (a : Nat) (ha : a ≤ bs.length) (bad c : Int) (v : Int) (a2 : Nat) (bad2 : Int) (h : askR 0 bs a bad (smallR A bs a) = (v, a2, bad2)) :
    TC1 P 23 [.ref 0 4 0 0] [some (rdrF B bs a bad c)] (.int .i8 v) [some (rdrF B bs a2 bad2 c)] := by
  refine TC1.of A _ _ T0 (T0_ok hP) (hP ▸ Try.func23) rfl _ rfl (by simp) ?_
  have hll := B.l.len bs
  have hlk : A.len (B.l.l bs) = (bs.length : Int) := by rw [A.ok_len, hll]
  unfold askR at h
  by_cases h0 : 0 ≤ bad
  · rw [if_pos h0] at h
    cases h
    unfold rdrF
    cbv
    ((try cbv) <;> (repeat ((with_reducible refine EW.of ?_); cbv)))
    refine byes (leT h0) ?_
    ((try cbv) <;> (repeat ((with_reducible refine EW.of ?_); cbv)))
    refine R1.of ?_
    cbv
    (repeat (first | exact trivial | refine And.intro (Emb.Pur _ _) ?_ | refine And.intro rfl ?_ | refine And.intro (Pur.mk rfl) ?_))
  rw [if_neg h0] at h
  have hb : bad < 0 := by omega
  unfold smallR takeR at h
  by_cases h1 : a + 1 ≤ bs.length
  · rw [if_pos h1] at h
    obtain ⟨b, hb0⟩ : ∃ b, bs[a]? = some b := ⟨_, List.getElem?_eq_getElem (by omega)⟩
    have hl1 : (bs.drop a).take 1 = [b] := by
      rw [List.drop_eq_getElem_cons (by omega)]
      rw [List.getElem?_eq_getElem (by omega)] at hb0
      rw [Option.some.inj hb0]
      rfl
    simp only [RR.bind, hl1, List.headD_cons] at h
    obtain ⟨rfl, rfl, rfl⟩ : A.wrap .i8 b.toNat = v ∧ a + 1 = a2 ∧ bad = bad2 := by
      cases h; exact ⟨rfl, rfl, rfl⟩
    have h8 : (a : Int) < (bs.length : Int) := by omega
    obtain ⟨a8, ha8⟩ : ∃ a8, a8 = a + 1 := ⟨_, rfl⟩
    have hadd : A.op .add .i64 (a : Int) 1 = (a8 : Int) := by rw [add_i64 rfl rfl (by omega) (by omega)]; omega
    have hsb := sub_back A (a := a) (n := 1) (a2 := a + 1) rfl (by omega)
    clear h hl1
    rw [← ha8]
    unfold rdrF
    cbv
    ((try cbv) <;> (repeat ((with_reducible refine EW.of ?_); cbv)))
    refine bno (leF hb) ?_
    ((try cbv) <;> (repeat ((with_reducible refine EW.of ?_); cbv)))
    (refine TW.draw (A := A) (T0_ok hP) (hP ▸ follows_mixed) (by kernel_rfl) rfl ?_; cbv)
    ((try cbv) <;> (repeat ((with_reducible refine EW.of ?_); cbv)))
    refine bno (show A.le (A.len (B.l.l bs)) (a : Int) = false by rw [hlk]; exact leF h8) ?_
    ((try cbv) <;> (repeat ((with_reducible refine EW.of ?_); cbv)))
    (refine TW.draw (A := A) (T0_ok hP) (hP ▸ follows_mixed) (by kernel_rfl) rfl ?_; cbv)
    refine ⟨a, _, hsb, B.get hb0, ?_⟩
    cbv
    ((try cbv) <;> (repeat ((with_reducible refine EW.of ?_); cbv)))
    refine R1.of ?_
    cbv
    (repeat (first | exact trivial | refine And.intro (Emb.Pur _ _) ?_ | refine And.intro hadd ?_ | refine And.intro rfl ?_))
  · rw [if_neg h1] at h
    have h8 : (bs.length : Int) ≤ (a : Int) := by omega
    cases h
    have h44 := fails44 A B hP bs a bad c hb (A.len (B.l.l bs))
    unfold rdrF at *
    rw [← hlk] at h8 ⊢
    cbv
    ((try cbv) <;> (repeat ((with_reducible refine EW.of ?_); cbv)))
    refine bno (leF hb) ?_
    ((try cbv) <;> (repeat ((with_reducible refine EW.of ?_); cbv)))
    (refine TW.draw (A := A) (T0_ok hP) (hP ▸ follows_mixed) (by kernel_rfl) rfl ?_; cbv)
    ((try cbv) <;> (repeat ((with_reducible refine EW.of ?_); cbv)))
    refine byes (show A.le (A.len (B.l.l bs)) (a : Int) = true from leT h8) ?_
    ((try cbv) <;> (repeat ((with_reducible refine EW.of ?_); cbv)))
    refine ⟨Ent.of (hP ▸ Try.func44) rfl, ?_⟩
    refine TC1.call [0] h44 ?_
    cbv
    (repeat (first | exact trivial | refine And.intro (Emb.Pur _ _) ?_ | refine And.intro rfl ?_ | refine And.intro (Pur.mk rfl) ?_))
    ((try cbv) <;> (repeat ((with_reducible refine EW.of ?_); cbv)))
    refine R1.of ?_
    cbv
    (repeat (first | exact trivial | refine And.intro (Emb.Pur _ _) ?_ | refine And.intro rfl ?_ | refine And.intro (Pur.mk rfl) ?_))
end Go.Proofs.Ytmbbdabcbnemiaa

/-! The reference's counts and texts. -/
namespace Go.Proofs.Ytmbbdabcbnemiaa
open Go.Proofs.Ytmbbdabcbnemiaa.Tw
theorem askR_bad {α : Type} {z v : α} {bs : List UInt8} {a a2 : Nat} {bad bad2 : Int} {r : RR α} (hb : 0 ≤ bad) (h : askR z bs a bad r = (v, a2, bad2)) : v = z ∧ a2 = a ∧ bad2 = bad := by
  unfold askR at h
  rw [if_pos hb] at h
  cases h
  exact ⟨rfl, rfl, rfl⟩
set_option maxHeartbeats 4000000 in
theorem Count33 (A : Ar) (B : EmB) {P : Program} (hP : P = Try.prog) (bs : List UInt8) (hl : bs.length ≤ 1000000000) (a : Nat) (ha : a ≤ bs.length) (bad c : Int) (size most : Int) (v : Int) (a2 : Nat) (bad2 : Int) (h : askR 0 bs a bad (countR A bs a size most) = (v, a2, bad2)) :
    TC1 P 33 [.ref 0 4 0 0, .int .i64 size, .int .i64 most] [some (rdrF B bs a bad c)] (.int .i64 v) [some (rdrF B bs a2 bad2 c)] := by
  refine TC1.of A _ _ T0 (T0_ok hP) (hP ▸ Try.func33) rfl _ rfl (by simp) ?_
  have hll := B.l.len bs
  have hlk : A.len (B.l.l bs) = (bs.length : Int) := by rw [A.ok_len, hll]
  by_cases h0 : 0 ≤ bad
  · obtain ⟨rfl, rfl, rfl⟩ := askR_bad h0 h
    have h21 := Number21 A B hP bs hl a2 ha bad2 c 0 a2 bad2 (by unfold askR; rw [if_pos h0])
    unfold rdrF at *
    cbv
    ((try cbv) <;> (repeat ((with_reducible refine EW.of ?_); cbv)))
    refine ⟨Ent.of (hP ▸ Try.func21) rfl, ?_⟩
    refine TC1.call [0] h21 ?_
    cbv
    (repeat (first | exact trivial | refine And.intro (Emb.Pur _ _) ?_ | refine And.intro rfl ?_ | refine And.intro (Pur.mk rfl) ?_))
    ((try cbv) <;> (repeat ((with_reducible refine EW.of ?_); cbv)))
    refine byes (leT h0) ?_
    ((try cbv) <;> (repeat ((with_reducible refine EW.of ?_); cbv)))
    refine R1.of ?_
    cbv
    (repeat (first | exact trivial | refine And.intro (Emb.Pur _ _) ?_ | refine And.intro rfl ?_ | refine And.intro (Pur.mk rfl) ?_))
  have hb : bad < 0 := by omega
  unfold askR at h
  rw [if_neg h0] at h
  unfold countR at h
  cases hn : numR A bs a with
  | no e a3 =>
    rw [hn] at h
    have he := numR_no hn
    obtain ⟨rfl, rfl, rfl⟩ : 0 = v ∧ a3 = a2 ∧ e = bad2 := by cases h; exact ⟨rfl, rfl, rfl⟩
    have h21 := Number21 A B hP bs hl a ha bad c 0 a3 e (by unfold askR; rw [if_neg h0, hn])
    have he0 : 0 ≤ e := by rw [he.1]; omega
    clear h he
    unfold rdrF at *
    cbv
    ((try cbv) <;> (repeat ((with_reducible refine EW.of ?_); cbv)))
    refine ⟨Ent.of (hP ▸ Try.func21) rfl, ?_⟩
    refine TC1.call [0] h21 ?_
    cbv
    (repeat (first | exact trivial | refine And.intro (Emb.Pur _ _) ?_ | refine And.intro rfl ?_ | refine And.intro (Pur.mk rfl) ?_))
    ((try cbv) <;> (repeat ((with_reducible refine EW.of ?_); cbv)))
    refine byes (leT he0) ?_
    ((try cbv) <;> (repeat ((with_reducible refine EW.of ?_); cbv)))
    refine R1.of ?_
    cbv
    (repeat (first | exact trivial | refine And.intro (Emb.Pur _ _) ?_ | refine And.intro rfl ?_ | refine And.intro (Pur.mk rfl) ?_))
  | ok n a3 =>
    rw [hn] at h
    have hn3 := numR_ok hn
    have h21 := Number21 A B hP bs hl a ha bad c n a3 bad (by unfold askR; rw [if_neg h0, hn])
    have h44 := fails44 A B hP bs a3 bad c hb a
    have hmx : A.mx size 1 ≠ 0 := by
      rw [A.ok_mx]
      split <;> omega
    simp only [RR.bind] at h
    obtain ⟨cb, hcb⟩ : ∃ b, b = countB A bs.length a3 n size most := ⟨_, rfl⟩
    rw [← hcb] at h
    obtain rfl : a3 = a2 := by
      cases cb <;> (cases h; rfl)
    have hy : cb = true → (0 = v ∧ (a : Int) = bad2) := by rintro rfl; cases h; exact ⟨rfl, rfl⟩
    have hn' : cb = false → (n = v ∧ bad = bad2) := by rintro rfl; cases h; exact ⟨rfl, rfl⟩
    unfold countB at hcb
    rw [← hlk] at hcb
    obtain ⟨q3, hq3⟩ : ∃ b, b = A.lt (A.op .quo .i64 (A.op .sub .i64 (A.len (B.l.l bs)) (a3 : Int)) (A.mx size 1)) n := ⟨_, rfl⟩
    rw [← hq3] at hcb
    clear hn hn3 h
    unfold rdrF at *
    cbv
    ((try cbv) <;> (repeat ((with_reducible refine EW.of ?_); cbv)))
    refine ⟨Ent.of (hP ▸ Try.func21) rfl, ?_⟩
    refine TC1.call [0] h21 ?_
    cbv
    (repeat (first | exact trivial | refine And.intro (Emb.Pur _ _) ?_ | refine And.intro rfl ?_ | refine And.intro (Pur.mk rfl) ?_))
    ((try cbv) <;> (repeat ((with_reducible refine EW.of ?_); cbv)))
    refine bno (leF hb) ?_
    ((try cbv) <;> (repeat ((with_reducible refine EW.of ?_); cbv)))
    (refine TW.draw (A := A) (T0_ok hP) (hP ▸ follows_mixed) (by kernel_rfl) rfl ?_; cbv)
    refine bsplit (fun h1 => ?_) (fun h1 => ?_)
    · rw [if_pos h1] at hcb
      have e1 := (hy hcb).1
      have e2 := (hy hcb).2
      cbv
      ((try cbv) <;> (repeat ((with_reducible refine EW.of ?_); cbv)))
      refine ⟨Ent.of (hP ▸ Try.func44) rfl, ?_⟩
      refine TC1.call [0] h44 ?_
      cbv
      (repeat (first | exact trivial | refine And.intro (Emb.Pur _ _) ?_ | refine And.intro rfl ?_ | refine And.intro (Pur.mk rfl) ?_))
      ((try cbv) <;> (repeat ((with_reducible refine EW.of ?_); cbv)))
      refine R1.of ?_
      cbv
      (repeat (first | exact trivial | refine And.intro (Emb.Pur _ _) ?_ | refine And.intro rfl ?_ | refine And.intro e1 ?_ | refine And.intro e2 ?_))
    rw [if_neg (show ¬ A.lt n 0 = true by rw [show A.lt n 0 = false from h1]; decide)] at hcb
    cbv
    refine bsplit (fun h2 => ?_) (fun h2 => ?_)
    · rw [if_pos h2] at hcb
      have e1 := (hy hcb).1
      have e2 := (hy hcb).2
      cbv
      ((try cbv) <;> (repeat ((with_reducible refine EW.of ?_); cbv)))
      refine ⟨Ent.of (hP ▸ Try.func44) rfl, ?_⟩
      refine TC1.call [0] h44 ?_
      cbv
      (repeat (first | exact trivial | refine And.intro (Emb.Pur _ _) ?_ | refine And.intro rfl ?_ | refine And.intro (Pur.mk rfl) ?_))
      ((try cbv) <;> (repeat ((with_reducible refine EW.of ?_); cbv)))
      refine R1.of ?_
      cbv
      (repeat (first | exact trivial | refine And.intro (Emb.Pur _ _) ?_ | refine And.intro rfl ?_ | refine And.intro e1 ?_ | refine And.intro e2 ?_))
    rw [if_neg (show ¬ A.lt most n = true by rw [show A.lt most n = false from h2]; decide)] at hcb
    cbv
    refine ⟨hmx, ?_⟩
    cbv
    ((try cbv) <;> (repeat ((with_reducible refine EW.of ?_); cbv)))
    refine bsplit (fun h3 => ?_) (fun h3 => ?_)
    · have h3 : q3 = true := hq3.trans h3
      rw [h3] at hcb
      have e1 := (hy hcb).1
      have e2 := (hy hcb).2
      cbv
      ((try cbv) <;> (repeat ((with_reducible refine EW.of ?_); cbv)))
      refine ⟨Ent.of (hP ▸ Try.func44) rfl, ?_⟩
      refine TC1.call [0] h44 ?_
      cbv
      (repeat (first | exact trivial | refine And.intro (Emb.Pur _ _) ?_ | refine And.intro rfl ?_ | refine And.intro (Pur.mk rfl) ?_))
      ((try cbv) <;> (repeat ((with_reducible refine EW.of ?_); cbv)))
      refine R1.of ?_
      cbv
      (repeat (first | exact trivial | refine And.intro (Emb.Pur _ _) ?_ | refine And.intro rfl ?_ | refine And.intro e1 ?_ | refine And.intro e2 ?_))
    have h3 : q3 = false := hq3.trans h3
    rw [h3] at hcb
    have e1 := (hn' hcb).1
    have e2 := (hn' hcb).2
    ((try cbv) <;> (repeat ((with_reducible refine EW.of ?_); cbv)))
    refine R1.of ?_
    cbv
    (repeat (first | exact trivial | refine And.intro (Emb.Pur _ _) ?_ | refine And.intro rfl ?_ | refine And.intro e1 ?_ | refine And.intro e2 ?_))
end Go.Proofs.Ytmbbdabcbnemiaa

/-! The reference's texts. -/
namespace Go.Proofs.Ytmbbdabcbnemiaa
open Go.Proofs.Ytmbbdabcbnemiaa.Tw
theorem countR_pos {A : Ar} {bs : List UInt8} (hl : bs.length ≤ 1000000000) {a : Nat} (ha : a ≤ bs.length) {bad size most : Int} {n : Int} {a3 : Nat} {b3 : Int} (h : askR 0 bs a bad (countR A bs a size most) = (n, a3, b3)) : a3 ≤ bs.length := by
  unfold askR at h
  split at h
  · cases h; exact ha
  cases hc : countR A bs a size most with
  | no e a2 =>
    rw [hc] at h; cases h
    rcases countR_no hc with h | h <;> omega
  | ok m a2 => rw [hc] at h; cases h; exact (countR_ok hl hc).2.1
theorem textA {A : Ar} {bs : List UInt8} (hl : bs.length ≤ 1000000000) {a : Nat} {bad : Int} {v : ByteArray} {a2 : Nat} {bad2 : Int} (h : askR ⟨#[]⟩ bs a bad (textR A bs a) = (v, a2, bad2)) {n : Int} {a3 : Nat} {b3 : Int}
    (hc : askR 0 bs a bad (countR A bs a 1 bs.length) = (n, a3, b3)) :
    (0 ≤ b3 ∧ v = ⟨#[]⟩ ∧ a2 = a3 ∧ bad2 = b3) ∨ (b3 < 0 ∧ bad2 = b3 ∧ ∃ m : Nat, n = m ∧ a2 = a3 + m ∧ a2 ≤ bs.length ∧ v = ⟨⟨(bs.drop a3).take m⟩⟩) := by
  unfold askR at h hc
  by_cases h0 : 0 ≤ bad
  · rw [if_pos h0] at h hc
    cases h; cases hc
    exact .inl ⟨h0, rfl, rfl, rfl⟩
  rw [if_neg h0] at h hc
  unfold textR at h
  cases hr : countR A bs a 1 bs.length with
  | no e a4 =>
    rw [hr] at h hc
    cases h; cases hc
    refine .inl ⟨?_, rfl, rfl, rfl⟩
    rcases countR_no hr with h | h <;> omega
  | ok m a4 =>
    rw [hr] at h hc
    cases hc
    have hk := countR_ok hl hr
    have h1 : max (1 : Int) 1 = 1 := rfl
    rw [h1] at hk
    obtain ⟨k, rfl⟩ : ∃ k : Nat, n = k := ⟨n.toNat, by omega⟩
    simp only [RR.bind, Int.toNat_natCast] at h
    unfold takeR at h
    rw [if_pos (by omega)] at h
    cases h
    exact .inr ⟨by omega, rfl, k, rfl, rfl, by omega, rfl⟩
set_option maxHeartbeats 2000000 in
theorem Text25 (A : Ar) (B : EmB) {P : Program} (hP : P = Try.prog) (bs : List UInt8) (hl : bs.length ≤ 1000000000) (a : Nat) (ha : a ≤ bs.length) (bad c : Int) (v : ByteArray) (a2 : Nat) (bad2 : Int) (h : askR ⟨#[]⟩ bs a bad (textR A bs a) = (v, a2, bad2)) :
    TC1 P 25 [.ref 0 4 0 0] [some (rdrF B bs a bad c)] (.str v) [some (rdrF B bs a2 bad2 c)] := by
  refine TC1.of A _ _ T0 (T0_ok hP) (hP ▸ Try.func25) rfl _ rfl (by simp) ?_
  have hll := B.l.len bs
  have hlk : A.len (B.l.l bs) = (bs.length : Int) := by rw [A.ok_len, hll]
  obtain ⟨n, a3, b3, hc⟩ : ∃ n a3 b3, askR 0 bs a bad (countR A bs a 1 bs.length) = (n, a3, b3) := ⟨_, _, _, rfl⟩
  have hp := countR_pos hl ha hc
  have hx := textA hl h hc
  rw [← hlk] at hc
  have h33 := Count33 A B hP bs hl a ha bad c 1 (A.len (B.l.l bs)) n a3 b3 hc
  clear h hc
  rcases hx with ⟨h3, rfl, rfl, rfl⟩ | ⟨h3, rfl, m, rfl, rfl, h5, rfl⟩
  · skip
    unfold rdrF at *
    cbv
    ((try cbv) <;> (repeat ((with_reducible refine EW.of ?_); cbv)))
    refine ⟨Ent.of (hP ▸ Try.func33) rfl, ?_⟩
    refine TC1.call [0] h33 ?_
    cbv
    (repeat (first | exact trivial | refine And.intro (Emb.Pur _ _) ?_ | refine And.intro rfl ?_ | refine And.intro (Pur.mk rfl) ?_))
    ((try cbv) <;> (repeat ((with_reducible refine EW.of ?_); cbv)))
    refine byes (leT h3) ?_
    ((try cbv) <;> (repeat ((with_reducible refine EW.of ?_); cbv)))
    refine R1.of ?_
    cbv
    (repeat (first | exact trivial | refine And.intro (Emb.Pur _ _) ?_ | refine And.intro rfl ?_ | refine And.intro (Pur.mk rfl) ?_))
  · obtain ⟨a4, ha4⟩ : ∃ a4, a4 = a3 + m := ⟨_, rfl⟩
    have hadd : A.op .add .i64 (a3 : Int) (m : Int) = (a4 : Int) := by rw [add_i64 rfl rfl (by omega) (by omega)]; omega
    obtain ⟨r, hr⟩ : ∃ r, r = (bs.drop a3).take m := ⟨_, rfl⟩
    have hsb := sub_back A ha4 (by omega)
    rw [← ha4, ← hr]
    unfold rdrF at *
    cbv
    ((try cbv) <;> (repeat ((with_reducible refine EW.of ?_); cbv)))
    refine ⟨Ent.of (hP ▸ Try.func33) rfl, ?_⟩
    refine TC1.call [0] h33 ?_
    cbv
    (repeat (first | exact trivial | refine And.intro (Emb.Pur _ _) ?_ | refine And.intro rfl ?_ | refine And.intro (Pur.mk rfl) ?_))
    ((try cbv) <;> (repeat ((with_reducible refine EW.of ?_); cbv)))
    refine bno (leF h3) ?_
    ((try cbv) <;> (repeat ((with_reducible refine EW.of ?_); cbv)))
    (refine TW.draw (A := A) (T0_ok hP) (hP ▸ follows_mixed) (by kernel_rfl) rfl ?_; cbv)
    refine ⟨a3, hsb, a4, hadd, B.l.l r, ?_, (by omega), (by show a4 ≤ (B.l.l bs).length; omega), ?_⟩
    · show B.l.l r = List.drop a3 (List.take a4 (B.l.l bs))
      rw [B.l.take, B.l.drop, hr, ha4, List.drop_take]
      congr 2
      omega
    refine ⟨r, B.bytes r, ?_⟩
    cbv
    ((try cbv) <;> (repeat ((with_reducible refine EW.of ?_); cbv)))
    refine R1.of ?_
    cbv
    (repeat (first | exact trivial | refine And.intro (Emb.Pur _ _) ?_ | refine And.intro hadd ?_ | refine And.intro rfl ?_))
end Go.Proofs.Ytmbbdabcbnemiaa

/-! The reference's nodes. -/
namespace Go.Proofs.Ytmbbdabcbnemiaa
open Go.Proofs.Ytmbbdabcbnemiaa.Tw
/-- Kids read one behind the other: they, the count, the place, what failed. -/
def kidsF {α : Type} (one : Nat → Nat → Int → α × Nat × Nat × Int) : Nat → Nat → Nat → Int → List α × Nat × Nat × Int
  | 0, c, a, b => ([], c, a, b)
  | n + 1, c, a, b => if 0 ≤ b then ([], c, a, b) else
    ((one c a b).1 :: (kidsF one n (one c a b).2.1 (one c a b).2.2.1 (one c a b).2.2.2).1, (kidsF one n (one c a b).2.1 (one c a b).2.2.1 (one c a b).2.2.2).2)
def nodeF (A : Ar) (bs : List UInt8) : Nat → Nat → Nat → Int → Tree × Nat × Nat × Int
  | 0, c, a, b => if 0 ≤ b then (tree0, c, a, b) else (tree0, c + 1, a, a)
  | f + 1, c, a, b => if 0 ≤ b then (tree0, c, a, b) else if 200 < c + 1 then (tree0, c + 1, a, a) else
    let r1 := askR 0 bs a b (numR A bs a)
    let r2 := askR 0 bs r1.2.1 r1.2.2 (numR A bs r1.2.1)
    let r3 := askR ⟨#[]⟩ bs r2.2.1 r2.2.2 (textR A bs r2.2.1)
    let r4 := askR 0 bs r3.2.1 r3.2.2 (countR A bs r3.2.1 32 bs.length)
    let r5 := kidsF (nodeF A bs f) r4.1.toNat (c + 1) r4.2.1 r4.2.2
    (.node r1.1 r2.1 r3.1 r5.1, r5.2)
theorem askR_neg {α : Type} {z : α} {bs : List UInt8} {a : Nat} {b : Int} {r : RR α} (hb : ¬ 0 ≤ b) : askR z bs a b r = (match r with | .ok v a2 => (v, a2, b) | .no e a2 => (z, a2, e)) := by
  unfold askR; rw [if_neg hb]; cases r <;> rfl
theorem kidsF_pos {α : Type} {one : Nat → Nat → Int → α × Nat × Nat × Int} {n c a : Nat} {b : Int} (hb : 0 ≤ b) : kidsF one n c a b = ([], c, a, b) := by
  cases n with
  | zero => rfl
  | succ n => rw [kidsF, if_pos hb]
theorem askN_pos {A : Ar} {bs : List UInt8} {a : Nat} {b : Int} {v : Int} {a2 : Nat} {b2 : Int} (ha : a ≤ bs.length) (h : askR 0 bs a b (numR A bs a) = (v, a2, b2)) : a2 ≤ bs.length := by
  unfold askR at h
  split at h
  · cases h; exact ha
  cases hc : numR A bs a with
  | no e a3 => rw [hc] at h; cases h; rw [(numR_no hc).2]; exact ha
  | ok m a3 => rw [hc] at h; cases h; exact (numR_ok hc).2
theorem askT_pos {A : Ar} {bs : List UInt8} (hl : bs.length ≤ 1000000000) {a : Nat} {b : Int} {v : ByteArray} {a2 : Nat} {b2 : Int} (ha : a ≤ bs.length) (h : askR ⟨#[]⟩ bs a b (textR A bs a) = (v, a2, b2)) : a2 ≤ bs.length := by
  obtain ⟨n, a3, b3, hc⟩ : ∃ n a3 b3, askR 0 bs a b (countR A bs a 1 bs.length) = (n, a3, b3) := ⟨_, _, _, rfl⟩
  rcases textA hl h hc with ⟨_, _, rfl, _⟩ | ⟨_, _, m, _, rfl, h, _⟩
  · exact countR_pos hl ha hc
  · exact h
theorem askC_bd {A : Ar} {bs : List UInt8} (hl : bs.length ≤ 1000000000) {a : Nat} {b : Int} {size most n : Int} {a2 : Nat} {b2 : Int} (h : askR 0 bs a b (countR A bs a size most) = (n, a2, b2)) : 0 ≤ n ∧ n ≤ max most 0 := by
  unfold askR at h
  split at h
  · cases h; omega
  cases hc : countR A bs a size most with
  | no e a3 => rw [hc] at h; cases h; omega
  | ok m a3 => rw [hc] at h; cases h; have := countR_ok hl hc; omega
/-- What holds of a count, a place and what failed. -/
def goodF (bs : List UInt8) (c a : Nat) (b : Int) : Prop := c ≤ 201 ∧ a ≤ bs.length ∧ (b < 0 → c ≤ 200)
theorem askC_nat {A : Ar} {bs : List UInt8} (hl : bs.length ≤ 1000000000) {a : Nat} {b : Int} {size n : Int} {most : Nat} {a2 : Nat} {b2 : Int} (h : askR 0 bs a b (countR A bs a size most) = (n, a2, b2)) : ∃ m : Nat, n = m ∧ m ≤ most := by
  have := askC_bd hl h
  exact ⟨n.toNat, by omega, by omega⟩
theorem kidsF_good {α : Type} {bs : List UInt8} {one : Nat → Nat → Int → α × Nat × Nat × Int} (hone : ∀ c a b, goodF bs c a b → goodF bs (one c a b).2.1 (one c a b).2.2.1 (one c a b).2.2.2) : ∀ (n c a : Nat) (b : Int), goodF bs c a b → goodF bs (kidsF one n c a b).2.1 (kidsF one n c a b).2.2.1 (kidsF one n c a b).2.2.2
  | 0, c, a, b, h => h
  | n + 1, c, a, b, h => by
    rw [kidsF]
    split
    · exact h
    · exact kidsF_good hone n _ _ _ (hone c a b h)
theorem nodeF_good {A : Ar} {bs : List UInt8} (hl : bs.length ≤ 1000000000) : ∀ (f c a : Nat) (b : Int), goodF bs c a b → goodF bs (nodeF A bs f c a b).2.1 (nodeF A bs f c a b).2.2.1 (nodeF A bs f c a b).2.2.2
  | 0, c, a, b, h => by
    rw [nodeF]
    unfold goodF at h
    split
    · exact h
    · exact ⟨by show c + 1 ≤ _; omega, h.2.1, fun (hb : (a : Int) < 0) => by omega⟩
  | f + 1, c, a, b, h => by
    rw [nodeF]
    unfold goodF at h
    split
    · exact h
    split
    · exact ⟨by show c + 1 ≤ _; omega, h.2.1, fun (hb : (a : Int) < 0) => by omega⟩
    refine kidsF_good (nodeF_good hl f) _ _ _ _ ⟨by omega, ?_, fun _ => by omega⟩
    exact countR_pos hl (askT_pos hl (askN_pos (askN_pos h.2.1 rfl) rfl) rfl) rfl
end Go.Proofs.Ytmbbdabcbnemiaa
