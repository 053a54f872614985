import Derived.Test.YtmbbdabcbnemiaaRb
/-! Asking a reader: a panic is caught. -/
namespace Go.Proofs.Ytmbbdabcbnemiaa
open Go.Proofs.Ytmbbdabcbnemiaa.Tw
set_option maxHeartbeats 1000000 in
theorem askI_nil (A : Ar) {P : Program} (hP : P = Try.prog) (g : FuncId) : TPure P 42 [.nil, .func (.func g) [.nil] []] (.int .i64 0) := by
  have h : TCX P 42 [.nil, .func (.func g) [.nil] []] [] (.ret (.int .i64 0)) [] := by
    refine TCX.ofD A _ _ T0 (T0_ok hP) (hP ▸ Try.func42) rfl _ rfl (by simp) ?_
    refine EWD.seq ?_
    cbv
    refine EWD.seq ?_
    cbv
    ((try cbv) <;> (repeat ((with_reducible refine EW.of ?_); cbv)))
    refine R1.of ?_
    cbv
    (repeat (first | exact trivial | refine And.intro (Emb.Pur _ _) ?_ | refine And.intro rfl ?_ | refine And.intro (Pur.mk rfl) ?_ | refine And.intro (Pur.mk (by assumption)) ?_))
  exact TPure.of h
set_option maxHeartbeats 1000000 in
theorem askI_bad (A : Ar) (B : EmB) {P : Program} (hP : P = Try.prog) (bs : List UInt8) (a : Int) (bad : Int) (hbad : 0 ≤ bad) (g : FuncId) :
    TCX P 42 [.ref 0 3 0 0, .func (.func g) [.ref 0 3 0 0] []] [some (rdr B bs a bad)] (.ret (.int .i64 0)) [some (rdr B bs a bad)] := by
  unfold rdr at *
  refine TCX.ofD A _ _ T0 (T0_ok hP) (hP ▸ Try.func42) rfl _ rfl (by simp) ?_
  refine EWD.seq ?_
  cbv
  refine EWD.seq ?_
  cbv
  ((try cbv) <;> (repeat ((with_reducible refine EW.of ?_); cbv)))
  refine byes (leT hbad) ?_
  cbv
  ((try cbv) <;> (repeat ((with_reducible refine EW.of ?_); cbv)))
  refine R1.of ?_
  cbv
  (repeat (first | exact trivial | refine And.intro (Emb.Pur _ _) ?_ | refine And.intro rfl ?_ | refine And.intro (Pur.mk rfl) ?_ | refine And.intro (Pur.mk (by assumption)) ?_))
set_option maxHeartbeats 1000000 in
theorem askI_number_no (A : Ar) (B : EmB) {P : Program} (hP : P = Try.prog) (bs : List UInt8) (a a2 : Nat) (bad e : Int) (hbad : bad < 0)
    (hg : TCX P 43 [.ref 0 3 0 0] [some (rdr B bs a bad)] (.pan (failAV e)) [some (rdr B bs a2 bad)]) :
    TCX P 42 [.ref 0 3 0 0, .func (.func 43) [.ref 0 3 0 0] []] [some (rdr B bs a bad)] (.ret (.int .i64 0)) [some (rdr B bs a2 e)] := by
  (try unfold rdr at *)
  (try unfold failAV at *)
  refine TCX.ofD A _ _ T0 (T0_ok hP) (hP ▸ Try.func42) rfl _ rfl (by simp) ?_
  refine EWD.seq ?_
  cbv
  refine EWD.seq ?_
  cbv
  ((try cbv) <;> (repeat ((with_reducible refine EW.of ?_); cbv)))
  refine bno (leF hbad) ?_
  cbv
  ((try cbv) <;> (repeat ((with_reducible refine EW.of ?_); cbv)))
  refine EWD.defer ?_
  cbv
  refine ⟨Ent.of (hP ▸ Try.func43) rfl, ?_⟩
  refine TCX.call [0] hg ?_
  cbv
  (repeat (first | exact trivial | refine And.intro (Emb.Pur _ _) ?_ | refine And.intro rfl ?_ | refine And.intro (Pur.mk rfl) ?_ | refine And.intro (Pur.mk (by assumption)) ?_))
  ((try cbv) <;> (repeat ((with_reducible refine EW.of ?_); cbv)))
  refine ⟨Ent.of (hP ▸ Try.func61) rfl, ?_⟩
  refine DC.of A T0 (T0_ok hP) (hP ▸ Try.func61) rfl _ rfl (by simp) rfl rfl rfl rfl rfl ?_
  cbv
  ((try cbv) <;> (repeat ((with_reducible refine EW.of ?_); cbv)))
  refine R1.of ?_
  cbv
  (repeat (first | exact trivial | refine And.intro (Emb.Pur _ _) ?_ | refine And.intro rfl ?_ | refine And.intro (Pur.mk rfl) ?_ | refine And.intro (Pur.mk (by assumption)) ?_))
set_option maxHeartbeats 1000000 in
theorem askI_number_ok (A : Ar) (B : EmB) {P : Program} (hP : P = Try.prog) (bs : List UInt8) (a a2 : Nat) (bad : Int) (hbad : bad < 0) (v : Int)
    (hg : TCX P 43 [.ref 0 3 0 0] [some (rdr B bs a bad)] (.ret (.int .i64 v)) [some (rdr B bs a2 bad)]) :
    TCX P 42 [.ref 0 3 0 0, .func (.func 43) [.ref 0 3 0 0] []] [some (rdr B bs a bad)] (.ret (.int .i64 v)) [some (rdr B bs a2 bad)] := by
  (try unfold rdr at *)
  (try unfold failAV at *)
  refine TCX.ofD A _ _ T0 (T0_ok hP) (hP ▸ Try.func42) rfl _ rfl (by simp) ?_
  refine EWD.seq ?_
  cbv
  refine EWD.seq ?_
  cbv
  ((try cbv) <;> (repeat ((with_reducible refine EW.of ?_); cbv)))
  refine bno (leF hbad) ?_
  cbv
  ((try cbv) <;> (repeat ((with_reducible refine EW.of ?_); cbv)))
  refine EWD.defer ?_
  cbv
  refine ⟨Ent.of (hP ▸ Try.func43) rfl, ?_⟩
  refine TCX.call [0] hg ?_
  cbv
  (repeat (first | exact trivial | refine And.intro (Emb.Pur _ _) ?_ | refine And.intro rfl ?_ | refine And.intro (Pur.mk rfl) ?_ | refine And.intro (Pur.mk (by assumption)) ?_))
  ((try cbv) <;> (repeat ((with_reducible refine EW.of ?_); cbv)))
  refine ⟨Ent.of (hP ▸ Try.func61) rfl, ?_⟩
  refine DC.of A T0 (T0_ok hP) (hP ▸ Try.func61) rfl _ rfl (by simp) rfl rfl rfl rfl rfl ?_
  cbv
  ((try cbv) <;> (repeat ((with_reducible refine EW.of ?_); cbv)))
  refine R1.of ?_
  cbv
  (repeat (first | exact trivial | refine And.intro (Emb.Pur _ _) ?_ | refine And.intro rfl ?_ | refine And.intro (Pur.mk rfl) ?_ | refine And.intro (Pur.mk (by assumption)) ?_))
set_option maxHeartbeats 1000000 in
theorem askS_nil (A : Ar) {P : Program} (hP : P = Try.prog) (g : FuncId) : TPure P 45 [.nil, .func (.func g) [.nil] []] (.int .i8 0) := by
  have h : TCX P 45 [.nil, .func (.func g) [.nil] []] [] (.ret (.int .i8 0)) [] := by
    refine TCX.ofD A _ _ T0 (T0_ok hP) (hP ▸ Try.func45) rfl _ rfl (by simp) ?_
    refine EWD.seq ?_
    cbv
    refine EWD.seq ?_
    cbv
    ((try cbv) <;> (repeat ((with_reducible refine EW.of ?_); cbv)))
    refine R1.of ?_
    cbv
    (repeat (first | exact trivial | refine And.intro (Emb.Pur _ _) ?_ | refine And.intro rfl ?_ | refine And.intro (Pur.mk rfl) ?_ | refine And.intro (Pur.mk (by assumption)) ?_))
  exact TPure.of h
set_option maxHeartbeats 1000000 in
theorem askS_bad (A : Ar) (B : EmB) {P : Program} (hP : P = Try.prog) (bs : List UInt8) (a : Int) (bad : Int) (hbad : 0 ≤ bad) (g : FuncId) :
    TCX P 45 [.ref 0 3 0 0, .func (.func g) [.ref 0 3 0 0] []] [some (rdr B bs a bad)] (.ret (.int .i8 0)) [some (rdr B bs a bad)] := by
  unfold rdr at *
  refine TCX.ofD A _ _ T0 (T0_ok hP) (hP ▸ Try.func45) rfl _ rfl (by simp) ?_
  refine EWD.seq ?_
  cbv
  refine EWD.seq ?_
  cbv
  ((try cbv) <;> (repeat ((with_reducible refine EW.of ?_); cbv)))
  refine byes (leT hbad) ?_
  cbv
  ((try cbv) <;> (repeat ((with_reducible refine EW.of ?_); cbv)))
  refine R1.of ?_
  cbv
  (repeat (first | exact trivial | refine And.intro (Emb.Pur _ _) ?_ | refine And.intro rfl ?_ | refine And.intro (Pur.mk rfl) ?_ | refine And.intro (Pur.mk (by assumption)) ?_))
set_option maxHeartbeats 1000000 in
theorem askS_small_no (A : Ar) (B : EmB) {P : Program} (hP : P = Try.prog) (bs : List UInt8) (a a2 : Nat) (bad e : Int) (hbad : bad < 0)
    (hg : TCX P 46 [.ref 0 3 0 0] [some (rdr B bs a bad)] (.pan (failAV e)) [some (rdr B bs a2 bad)]) :
    TCX P 45 [.ref 0 3 0 0, .func (.func 46) [.ref 0 3 0 0] []] [some (rdr B bs a bad)] (.ret (.int .i8 0)) [some (rdr B bs a2 e)] := by
  (try unfold rdr at *)
  (try unfold failAV at *)
  refine TCX.ofD A _ _ T0 (T0_ok hP) (hP ▸ Try.func45) rfl _ rfl (by simp) ?_
  refine EWD.seq ?_
  cbv
  refine EWD.seq ?_
  cbv
  ((try cbv) <;> (repeat ((with_reducible refine EW.of ?_); cbv)))
  refine bno (leF hbad) ?_
  cbv
  ((try cbv) <;> (repeat ((with_reducible refine EW.of ?_); cbv)))
  refine EWD.defer ?_
  cbv
  refine ⟨Ent.of (hP ▸ Try.func46) rfl, ?_⟩
  refine TCX.call [0] hg ?_
  cbv
  (repeat (first | exact trivial | refine And.intro (Emb.Pur _ _) ?_ | refine And.intro rfl ?_ | refine And.intro (Pur.mk rfl) ?_ | refine And.intro (Pur.mk (by assumption)) ?_))
  ((try cbv) <;> (repeat ((with_reducible refine EW.of ?_); cbv)))
  refine ⟨Ent.of (hP ▸ Try.func63) rfl, ?_⟩
  refine DC.of A T0 (T0_ok hP) (hP ▸ Try.func63) rfl _ rfl (by simp) rfl rfl rfl rfl rfl ?_
  cbv
  ((try cbv) <;> (repeat ((with_reducible refine EW.of ?_); cbv)))
  refine R1.of ?_
  cbv
  (repeat (first | exact trivial | refine And.intro (Emb.Pur _ _) ?_ | refine And.intro rfl ?_ | refine And.intro (Pur.mk rfl) ?_ | refine And.intro (Pur.mk (by assumption)) ?_))
set_option maxHeartbeats 1000000 in
theorem askS_small_ok (A : Ar) (B : EmB) {P : Program} (hP : P = Try.prog) (bs : List UInt8) (a a2 : Nat) (bad : Int) (hbad : bad < 0) (v : Int)
    (hg : TCX P 46 [.ref 0 3 0 0] [some (rdr B bs a bad)] (.ret (.int .i8 v)) [some (rdr B bs a2 bad)]) :
    TCX P 45 [.ref 0 3 0 0, .func (.func 46) [.ref 0 3 0 0] []] [some (rdr B bs a bad)] (.ret (.int .i8 v)) [some (rdr B bs a2 bad)] := by
  (try unfold rdr at *)
  (try unfold failAV at *)
  refine TCX.ofD A _ _ T0 (T0_ok hP) (hP ▸ Try.func45) rfl _ rfl (by simp) ?_
  refine EWD.seq ?_
  cbv
  refine EWD.seq ?_
  cbv
  ((try cbv) <;> (repeat ((with_reducible refine EW.of ?_); cbv)))
  refine bno (leF hbad) ?_
  cbv
  ((try cbv) <;> (repeat ((with_reducible refine EW.of ?_); cbv)))
  refine EWD.defer ?_
  cbv
  refine ⟨Ent.of (hP ▸ Try.func46) rfl, ?_⟩
  refine TCX.call [0] hg ?_
  cbv
  (repeat (first | exact trivial | refine And.intro (Emb.Pur _ _) ?_ | refine And.intro rfl ?_ | refine And.intro (Pur.mk rfl) ?_ | refine And.intro (Pur.mk (by assumption)) ?_))
  ((try cbv) <;> (repeat ((with_reducible refine EW.of ?_); cbv)))
  refine ⟨Ent.of (hP ▸ Try.func63) rfl, ?_⟩
  refine DC.of A T0 (T0_ok hP) (hP ▸ Try.func63) rfl _ rfl (by simp) rfl rfl rfl rfl rfl ?_
  cbv
  ((try cbv) <;> (repeat ((with_reducible refine EW.of ?_); cbv)))
  refine R1.of ?_
  cbv
  (repeat (first | exact trivial | refine And.intro (Emb.Pur _ _) ?_ | refine And.intro rfl ?_ | refine And.intro (Pur.mk rfl) ?_ | refine And.intro (Pur.mk (by assumption)) ?_))
set_option maxHeartbeats 1000000 in
theorem askT_nil (A : Ar) {P : Program} (hP : P = Try.prog) (g : FuncId) : TPure P 47 [.nil, .func (.func g) [.nil] []] (.str ⟨#[]⟩) := by
  have h : TCX P 47 [.nil, .func (.func g) [.nil] []] [] (.ret (.str ⟨#[]⟩)) [] := by
    refine TCX.ofD A _ _ T0 (T0_ok hP) (hP ▸ Try.func47) rfl _ rfl (by simp) ?_
    refine EWD.seq ?_
    cbv
    refine EWD.seq ?_
    cbv
    ((try cbv) <;> (repeat ((with_reducible refine EW.of ?_); cbv)))
    refine R1.of ?_
    cbv
    (repeat (first | exact trivial | refine And.intro (Emb.Pur _ _) ?_ | refine And.intro rfl ?_ | refine And.intro (Pur.mk rfl) ?_ | refine And.intro (Pur.mk (by assumption)) ?_))
  exact TPure.of h
set_option maxHeartbeats 1000000 in
theorem askT_bad (A : Ar) (B : EmB) {P : Program} (hP : P = Try.prog) (bs : List UInt8) (a : Int) (bad : Int) (hbad : 0 ≤ bad) (g : FuncId) :
    TCX P 47 [.ref 0 3 0 0, .func (.func g) [.ref 0 3 0 0] []] [some (rdr B bs a bad)] (.ret (.str ⟨#[]⟩)) [some (rdr B bs a bad)] := by
  unfold rdr at *
  refine TCX.ofD A _ _ T0 (T0_ok hP) (hP ▸ Try.func47) rfl _ rfl (by simp) ?_
  refine EWD.seq ?_
  cbv
  refine EWD.seq ?_
  cbv
  ((try cbv) <;> (repeat ((with_reducible refine EW.of ?_); cbv)))
  refine byes (leT hbad) ?_
  cbv
  ((try cbv) <;> (repeat ((with_reducible refine EW.of ?_); cbv)))
  refine R1.of ?_
  cbv
  (repeat (first | exact trivial | refine And.intro (Emb.Pur _ _) ?_ | refine And.intro rfl ?_ | refine And.intro (Pur.mk rfl) ?_ | refine And.intro (Pur.mk (by assumption)) ?_))
set_option maxHeartbeats 1000000 in
theorem askT_text_no (A : Ar) (B : EmB) {P : Program} (hP : P = Try.prog) (bs : List UInt8) (a a2 : Nat) (bad e : Int) (hbad : bad < 0)
    (hg : TCX P 48 [.ref 0 3 0 0] [some (rdr B bs a bad)] (.pan (failAV e)) [some (rdr B bs a2 bad)]) :
    TCX P 47 [.ref 0 3 0 0, .func (.func 48) [.ref 0 3 0 0] []] [some (rdr B bs a bad)] (.ret (.str ⟨#[]⟩)) [some (rdr B bs a2 e)] := by
  (try unfold rdr at *)
  (try unfold failAV at *)
  refine TCX.ofD A _ _ T0 (T0_ok hP) (hP ▸ Try.func47) rfl _ rfl (by simp) ?_
  refine EWD.seq ?_
  cbv
  refine EWD.seq ?_
  cbv
  ((try cbv) <;> (repeat ((with_reducible refine EW.of ?_); cbv)))
  refine bno (leF hbad) ?_
  cbv
  ((try cbv) <;> (repeat ((with_reducible refine EW.of ?_); cbv)))
  refine EWD.defer ?_
  cbv
  refine ⟨Ent.of (hP ▸ Try.func48) rfl, ?_⟩
  refine TCX.call [0] hg ?_
  cbv
  (repeat (first | exact trivial | refine And.intro (Emb.Pur _ _) ?_ | refine And.intro rfl ?_ | refine And.intro (Pur.mk rfl) ?_ | refine And.intro (Pur.mk (by assumption)) ?_))
  ((try cbv) <;> (repeat ((with_reducible refine EW.of ?_); cbv)))
  refine ⟨Ent.of (hP ▸ Try.func64) rfl, ?_⟩
  refine DC.of A T0 (T0_ok hP) (hP ▸ Try.func64) rfl _ rfl (by simp) rfl rfl rfl rfl rfl ?_
  cbv
  ((try cbv) <;> (repeat ((with_reducible refine EW.of ?_); cbv)))
  refine R1.of ?_
  cbv
  (repeat (first | exact trivial | refine And.intro (Emb.Pur _ _) ?_ | refine And.intro rfl ?_ | refine And.intro (Pur.mk rfl) ?_ | refine And.intro (Pur.mk (by assumption)) ?_))
set_option maxHeartbeats 1000000 in
theorem askT_text_ok (A : Ar) (B : EmB) {P : Program} (hP : P = Try.prog) (bs : List UInt8) (a a2 : Nat) (bad : Int) (hbad : bad < 0) (v : ByteArray)
    (hg : TCX P 48 [.ref 0 3 0 0] [some (rdr B bs a bad)] (.ret (.str v)) [some (rdr B bs a2 bad)]) :
    TCX P 47 [.ref 0 3 0 0, .func (.func 48) [.ref 0 3 0 0] []] [some (rdr B bs a bad)] (.ret (.str v)) [some (rdr B bs a2 bad)] := by
  (try unfold rdr at *)
  (try unfold failAV at *)
  refine TCX.ofD A _ _ T0 (T0_ok hP) (hP ▸ Try.func47) rfl _ rfl (by simp) ?_
  refine EWD.seq ?_
  cbv
  refine EWD.seq ?_
  cbv
  ((try cbv) <;> (repeat ((with_reducible refine EW.of ?_); cbv)))
  refine bno (leF hbad) ?_
  cbv
  ((try cbv) <;> (repeat ((with_reducible refine EW.of ?_); cbv)))
  refine EWD.defer ?_
  cbv
  refine ⟨Ent.of (hP ▸ Try.func48) rfl, ?_⟩
  refine TCX.call [0] hg ?_
  cbv
  (repeat (first | exact trivial | refine And.intro (Emb.Pur _ _) ?_ | refine And.intro rfl ?_ | refine And.intro (Pur.mk rfl) ?_ | refine And.intro (Pur.mk (by assumption)) ?_))
  ((try cbv) <;> (repeat ((with_reducible refine EW.of ?_); cbv)))
  refine ⟨Ent.of (hP ▸ Try.func64) rfl, ?_⟩
  refine DC.of A T0 (T0_ok hP) (hP ▸ Try.func64) rfl _ rfl (by simp) rfl rfl rfl rfl rfl ?_
  cbv
  ((try cbv) <;> (repeat ((with_reducible refine EW.of ?_); cbv)))
  refine R1.of ?_
  cbv
  (repeat (first | exact trivial | refine And.intro (Emb.Pur _ _) ?_ | refine And.intro rfl ?_ | refine And.intro (Pur.mk rfl) ?_ | refine And.intro (Pur.mk (by assumption)) ?_))
end Go.Proofs.Ytmbbdabcbnemiaa
