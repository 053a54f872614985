import Derived.Test.YtmbbdabcbnemiaaRa
/-! A reader's numbers. -/
namespace Go.Proofs.Ytmbbdabcbnemiaa
open Go.Proofs.Ytmbbdabcbnemiaa.Tw
/-- What a reader comes to: a thing, or a byte that can't stand there; and where it is then. -/
inductive RR (α : Type) where
  | ok (v : α) (at' : Nat)
  | no (e : Int) (at' : Nat)
namespace RR
variable {α β : Type}
def fin (f : α → AV) : RR α → AEnd
  | .ok v _ => .ret (f v)
  | .no e _ => .pan (failAV e)
def pos : RR α → Nat
  | .ok _ a => a
  | .no _ a => a
def bind (r : RR α) (f : α → Nat → RR β) : RR β :=
  match r with
  | .ok v a => f v a
  | .no e a => .no e a
end RR
/-- The next bytes. -/
def takeR (bs : List UInt8) (a n : Nat) : RR (List UInt8) := if a + n ≤ bs.length then .ok ((bs.drop a).take n) (a + n) else .no bs.length a
theorem takeR_ok {bs l : List UInt8} {a n a2 : Nat} (h : takeR bs a n = .ok l a2) : l.length = n ∧ a2 = a + n ∧ a2 ≤ bs.length := by
  unfold takeR at h
  split at h
  · cases h; simp; omega
  · cases h
theorem takeR_no {bs : List UInt8} {a n a2 : Nat} {e : Int} (h : takeR bs a n = .no e a2) : e = bs.length ∧ a2 = a := by
  unfold takeR at h
  split at h
  · cases h
  · cases h; exact ⟨rfl, rfl⟩
theorem take62 (A : Ar) (B : EmB) {P : Program} (hP : P = Try.prog) (bs : List UInt8) (hl : bs.length ≤ 1000000000) (a : Nat) (ha : a ≤ bs.length) (bad : Int) (n : Nat) (hn : n ≤ 1000000000) :
    TCX P 62 [.ref 0 3 0 0, .int .i64 n] [some (rdr B bs a bad)] ((takeR bs a n).fin fun r => .sl 1 (B.l.l r)) [some (rdr B bs (takeR bs a n).pos bad)] := by
  unfold takeR
  by_cases h : a + n ≤ bs.length
  · rw [if_pos h]
    exact take_ok A B hP bs hl a bad n (a + n) rfl h _ rfl
  · rw [if_neg h]
    exact take_no A B hP bs hl a bad n hn ha (by omega) _ rfl
def stepN (A : Ar) (n : Int) (b : UInt8) : Int := A.op .or .u64 (A.op .shl .u64 n 8) (A.wrap .u64 b.toNat)
def foldN (A : Ar) (n : Int) (l : List UInt8) : Int := l.foldl (stepN A) n
theorem foldN_drop {A : Ar} {n : Int} : ∀ {l : List UInt8} {j : Nat} {b : UInt8}, l[j]? = some b → foldN A n (l.drop j) = foldN A (stepN A n b) (l.drop (j + 1))
  | [], j, b, h => by simp at h
  | c :: l, 0, b, h => by simp at h; subst h; rfl
  | c :: l, j + 1, b, h => by simp only [List.drop_succ_cons]; exact foldN_drop (by simpa using h)
def numR (A : Ar) (bs : List UInt8) (a : Nat) : RR Int := (takeR bs a 8).bind fun l a => .ok (A.wrap .i64 (foldN A 0 l)) a
set_option maxHeartbeats 1000000 in
theorem number43 (A : Ar) (B : EmB) {P : Program} (hP : P = Try.prog) (bs : List UInt8) (hl : bs.length ≤ 1000000000) (a : Nat) (ha : a ≤ bs.length) (bad : Int) :
    TCX P 43 [.ref 0 3 0 0] [some (rdr B bs a bad)] ((numR A bs a).fin fun n => .int .i64 n) [some (rdr B bs (numR A bs a).pos bad)] := by
  have h62 := take62 A B hP bs hl a ha bad 8 (by omega)
  unfold numR
  have hln : ∀ l a2, takeR bs a 8 = .ok l a2 → l.length = 8 := fun l a2 h => (takeR_ok h).1
  generalize takeR bs a 8 = r at h62 hln
  have hbl := B.l.len bs
  cases r with
  | no e a2 =>
    show TCX P 43 [.ref 0 3 0 0] [some (rdr B bs a bad)] (.pan (failAV e)) [some (rdr B bs a2 bad)]
    replace h62 : TCX P 62 _ _ (.pan (failAV e)) [some (rdr B bs a2 bad)] := h62
    unfold rdr failAV at *
    refine TCX.of A _ _ T0 (T0_ok hP) (hP ▸ Try.func43) rfl _ rfl (by simp) ?_
    cbv
    ((try cbv) <;> (repeat ((with_reducible refine EW.of ?_); cbv)))
    refine ⟨Ent.of (hP ▸ Try.func62) rfl, ?_⟩
    refine TCX.call [0] h62 ?_
    cbv
    (repeat (first | exact trivial | refine And.intro (Emb.Pur _ _) ?_ | refine And.intro rfl ?_))
    refine R1.of ?_
    cbv
    (repeat (first | exact trivial | refine And.intro (Emb.Pur _ _) ?_ | refine And.intro rfl ?_))
  | ok l a2 =>
    have hl8 := hln l a2 rfl
    obtain ⟨res, hres⟩ : ∃ res, A.wrap .i64 (foldN A 0 l) = res := ⟨_, rfl⟩
    show TCX P 43 [.ref 0 3 0 0] [some (rdr B bs a bad)] (.ret (.int .i64 (A.wrap .i64 (foldN A 0 l)))) [some (rdr B bs a2 bad)]
    replace h62 : TCX P 62 _ _ (.ret (.sl 1 (B.l.l l))) [some (rdr B bs a2 bad)] := h62
    rw [hres]
    unfold rdr at *
    refine TCX.of A _ _ T0 (T0_ok hP) (hP ▸ Try.func43) rfl _ rfl (by simp) ?_
    have hll := B.l.len l
    cbv
    ((try cbv) <;> (repeat ((with_reducible refine EW.of ?_); cbv)))
    refine ⟨Ent.of (hP ▸ Try.func62) rfl, ?_⟩
    refine TCX.call [0] h62 ?_
    cbv
    (repeat (first | exact trivial | refine And.intro (Emb.Pur _ _) ?_ | refine And.intro (inc_eq A (by omega)) ?_ | refine And.intro rfl ?_))
    ((try cbv) <;> (repeat ((with_reducible refine EW.of ?_); cbv)))
    obtain ⟨S, hS⟩ : ∃ S : LI (Nat × Int), S = ⟨fun x => [(9, .int .i64 x.1), (8, .int .i64 (A.len (B.l.l l))), (7, .sl 1 (B.l.l l)), (3, .int .u64 x.2)], fun _ => [some (.box 3 (.agg [.sl 1 (B.l.l bs), .int .i64 a2, .int .i64 bad]))], fun x => x.1 ≤ l.length ∧ A.wrap .i64 (foldN A x.2 (l.drop x.1)) = res, fun x => l.length - x.1⟩ := ⟨_, rfl⟩
    refine TW.loopM A (T0_ok hP) S _ rfl (0, 0) ?_ ?_ ?_
    · rw [hS]; exact ⟨Nat.zero_le _, hres⟩
    · rw [hS]
      cbv
      (repeat (first | exact trivial | refine And.intro (Emb.Pur _ _) ?_ | refine And.intro (inc_eq A (by omega)) ?_ | refine And.intro rfl ?_))
    rintro ⟨j, n⟩ hj l1 L1 e1 e2
    rw [hS] at hj e1 e2
    dsimp only at hj e1 e2
    obtain ⟨hj, hinv⟩ := hj
    subst e1 e2
    cbv
    ((try cbv) <;> (repeat ((with_reducible refine EW.of ?_); cbv)))
    refine bsplit (fun h => ?_) (fun h => ?_)
    · have h : j < (B.l.l l).length := lt_nt h rfl (A.ok_len _)
      obtain ⟨x, hx⟩ : ∃ x, l[j]? = some x := ⟨_, List.getElem?_eq_getElem (by omega)⟩
      rw [foldN_drop hx] at hinv
      obtain ⟨n2, hn2⟩ : ∃ n2, n2 = stepN A n x := ⟨_, rfl⟩
      rw [← hn2] at hinv
      ((try cbv) <;> (repeat ((with_reducible refine EW.of ?_); cbv)))
      refine ⟨j, _, rfl, B.get hx, ?_⟩
      cbv
      ((try cbv) <;> (repeat ((with_reducible refine EW.of ?_); cbv)))
      refine ⟨by decide, ?_⟩
      ((try cbv) <;> (repeat ((with_reducible refine EW.of ?_); cbv)))
      refine LM.of (j + 1, n2) rfl ?_ ?_ ?_
      · rw [hS]; exact ⟨by show j + 1 ≤ _; omega, hinv⟩
      · rw [hS]; show l.length - (j + 1) < l.length - j; omega
      · rw [hS]
        cbv
        (repeat (first | exact trivial | refine And.intro (Emb.Pur _ _) ?_ | refine And.intro (inc_eq A (by omega)) ?_ | refine And.intro rfl ?_ | refine And.intro hn2.symm ?_))
    · have h : (B.l.l l).length ≤ j := lt_nf h rfl (A.ok_len _)
      rw [List.drop_eq_nil_of_le (by omega)] at hinv
      ((try cbv) <;> (repeat ((with_reducible refine EW.of ?_); cbv)))
      refine R1.of ?_
      cbv
      (repeat (first | exact trivial | refine And.intro (Emb.Pur _ _) ?_ | refine And.intro hinv ?_ | refine And.intro rfl ?_))
end Go.Proofs.Ytmbbdabcbnemiaa
