import Derived.Test.YtmbbdabcbnemiaaLp
import Derived.Test.YtmbbdabcbnemiaaTw9
/-! Bytes, and a reader's first steps. -/
namespace Go.Proofs.Ytmbbdabcbnemiaa
open Go.Proofs.Ytmbbdabcbnemiaa.Tw
/-- Bytes, not reckoned out. -/
structure EmB where
  l : Emb UInt8
  ok : l.v = fun b => .int .u8 b.toNat
def emB0 : EmB := ⟨⟨fun b => .int .u8 b.toNat, _, fun _ => rfl, fun _ => rfl⟩, rfl⟩
theorem EmB.get (B : EmB) {l : List UInt8} {j : Nat} {b : UInt8} (h : l[j]? = some b) : (B.l.l l)[j]? = some (.int .u8 b.toNat) := by rw [B.l.get h, B.ok]
/-- A reader: its bytes, where it is, the first byte that can't stand there. -/
def rdr (B : EmB) (bs : List UInt8) (at' bad : Int) : AO := .box 3 (.agg [.sl 1 (B.l.l bs), .int .i64 at', .int .i64 bad])
/-- What can't stand there, as a panic. -/
def failAV (i : Int) : AV := .ifc 85 (.agg [.int .i64 i])
theorem sub_back (A : Ar) {a n a2 : Nat} (ha2 : a2 = a + n) (h : a2 ≤ 1000000000) : A.op .sub .i64 (A.op .add .i64 (a : Int) (n : Int)) (n : Int) = (a : Int) := by
  subst ha2
  rw [add_i64 rfl rfl (by omega) (by omega), sub_i64 rfl rfl (by omega) (by omega)]
  omega
set_option maxHeartbeats 1000000 in
theorem take_ok (A : Ar) (B : EmB) {P : Program} (hP : P = Try.prog) (bs : List UInt8) (hl : bs.length ≤ 1000000000) (a : Nat) (bad : Int) (n a2 : Nat) (ha2 : a2 = a + n) (h : a2 ≤ bs.length) (r : List UInt8) (hr : r = (bs.drop a).take n) :
    TCX P 62 [.ref 0 3 0 0, .int .i64 n] [some (rdr B bs a bad)] (.ret (.sl 1 (B.l.l r))) [some (rdr B bs a2 bad)] := by
  refine TCX.of A _ _ T0 (T0_ok hP) (hP ▸ Try.func62) rfl _ rfl (by simp) ?_
  have hbl := B.l.len bs
  unfold rdr
  cbv
  ((try cbv) <;> (repeat ((with_reducible refine EW.of ?_); cbv)))
  (refine TW.draw (A := A) (T0_ok hP) (hP ▸ follows_mixed) (by kernel_rfl) rfl ?_; cbv)
  ((try cbv) <;> (repeat ((with_reducible refine EW.of ?_); cbv)))
  have hsub : A.op .sub .i64 (A.len (B.l.l bs)) (a : Int) = ((bs.length - a : Nat) : Int) := by rw [A.ok_len, hbl, sub_i64 rfl rfl (by omega) (by omega)]; omega
  have hadd : A.op .add .i64 (a : Int) (n : Int) = (a2 : Int) := by rw [add_i64 rfl rfl (by omega) (by omega)]; omega
  refine bno (show A.lt (A.op .sub .i64 (A.len (B.l.l bs)) (a : Int)) (n : Int) = false by rw [hsub]; exact ltF (by omega)) ?_
  ((try cbv) <;> (repeat ((with_reducible refine EW.of ?_); cbv)))
  (refine TW.draw (A := A) (T0_ok hP) (hP ▸ follows_mixed) (by kernel_rfl) rfl ?_; cbv)
  have hsub2 := sub_back A ha2 (by omega)
  refine ⟨a, hsub2, a2, hadd, a2, hadd, rfl, B.l.l r, ?_, (by omega), (by show a2 ≤ (B.l.l bs).length; omega), ?_⟩
  · show B.l.l r = List.drop a (List.take a2 (B.l.l bs))
    rw [B.l.take, B.l.drop, hr, ha2, List.drop_take]
    congr 2
    omega
  cbv
  ((try cbv) <;> (repeat ((with_reducible refine EW.of ?_); cbv)))
  refine R1.of ?_
  cbv
  exact ⟨B.l.Pur _, hadd, B.l.Pur _, trivial⟩
set_option maxHeartbeats 1000000 in
theorem take_no (A : Ar) (B : EmB) {P : Program} (hP : P = Try.prog) (bs : List UInt8) (hl : bs.length ≤ 1000000000) (a : Nat) (bad : Int) (n : Nat) (hn : n ≤ 1000000000) (ha : a ≤ bs.length) (h : bs.length < a + n) (e : Int) (he : e = bs.length) :
    TCX P 62 [.ref 0 3 0 0, .int .i64 n] [some (rdr B bs a bad)] (.pan (failAV e)) [some (rdr B bs a bad)] := by
  refine TCX.of A _ _ T0 (T0_ok hP) (hP ▸ Try.func62) rfl _ rfl (by simp) ?_
  have hbl := B.l.len bs
  unfold rdr failAV
  cbv
  ((try cbv) <;> (repeat ((with_reducible refine EW.of ?_); cbv)))
  (refine TW.draw (A := A) (T0_ok hP) (hP ▸ follows_mixed) (by kernel_rfl) rfl ?_; cbv)
  ((try cbv) <;> (repeat ((with_reducible refine EW.of ?_); cbv)))
  have hsub : A.op .sub .i64 (A.len (B.l.l bs)) (a : Int) = ((bs.length - a : Nat) : Int) := by rw [A.ok_len, hbl, sub_i64 rfl rfl (by omega) (by omega)]; omega
  refine byes (show A.lt (A.op .sub .i64 (A.len (B.l.l bs)) (a : Int)) (n : Int) = true by rw [hsub]; exact ltT (by omega)) ?_
  ((try cbv) <;> (repeat ((with_reducible refine EW.of ?_); cbv)))
  refine R1.of ?_
  cbv
  exact ⟨B.l.Pur _, by rw [he, ← hbl]; exact A.ok_len _, trivial⟩
end Go.Proofs.Ytmbbdabcbnemiaa
