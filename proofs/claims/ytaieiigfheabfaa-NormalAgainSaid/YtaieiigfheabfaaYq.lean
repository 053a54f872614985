import Derived.Test.YtaieiigfheabfaaYp
import Derived.Test.YtaieiigfheabfaaBn
/-! wakes of the normal forms. -/
namespace Go.Proofs.Ytaieiigfheabfaa
open Go.Proofs.Ytaieiigfheabfaa.Tw
def n0 : Tree := .node 0 0 ⟨#[]⟩ []
def txt (id : Int) (s : ByteArray) : Stp := ⟨4, id, 0, 0, s, n0⟩
theorem txt_av (E : Em) (F : EmS) (id : Int) (s : ByteArray) : F.l.v (txt id s) = .agg [.int .i8 4, .int .i64 id, .int .i64 0, .int .i64 0, .str s, .int .i64 0, .int .i64 0, .str ⟨#[]⟩, .sl 4 []] := by
  unfold txt n0
  rw [F.v E, E.tree.nil]
theorem text24 (A : Ar) (E : Em) (F : EmS) {P : Program} (hP : P = Try.prog) (id : Int) (s : ByteArray) : TPure P 24 [.int .i64 id, .str s] (F.l.v (txt id s)) := by
  rw [txt_av E F]
  refine TPure.ofE A T0 (T0_ok hP) (hP ▸ Try.func24) rfl _ rfl (by simp) ?_
  cbv
  ((try cbv) <;> (repeat ((with_reducible refine EW.of ?_); cbv)))
def wA : List Stp := [txt 2 ⟨#[97]⟩, txt 2 ⟨#[98]⟩, txt 3 ⟨#[99]⟩]
def wA2 : List Stp := [txt 2 ⟨#[98]⟩, txt 3 ⟨#[99]⟩]
def wB : List Stp := [⟨1, 0, 1, 0, ⟨#[]⟩, .node 5 0 ⟨#[]⟩ []⟩, txt 5 ⟨#[97]⟩, txt 5 ⟨#[98]⟩, ⟨2, 5, 0, 0, ⟨#[]⟩, n0⟩]
def wC : List Stp := [txt 2 ⟨#[97]⟩, txt 2 ⟨#[98]⟩]
set_option maxRecDepth 100000 in
theorem nfA : nf wA = wA2 := by rfl
set_option maxRecDepth 100000 in
theorem nfB : nf wB = [] := by rfl
theorem isA : (onceR wA2).2 = false := by rfl
theorem isC : (onceR wC).2 = true := by rfl
theorem w_n0 (n : Nat) : within (n + 1) n0 := ⟨by decide, fun t ht => by cases ht⟩
theorem w_txt {n : Nat} {id : Int} {s : ByteArray} : within (n + 1) (txt id s).sub := w_n0 n
set_option maxHeartbeats 2000000 in
theorem wakes9 (A : Ar) (E : Em) (F : EmS) {P : Program} (hP : P = Try.prog) : TPure P 9 [] (.bool true) := by
  have hA := Of13 A E F hP 0 wA (by decide) (fun x hx => by
    simp only [wA, List.mem_cons, List.not_mem_nil, or_false] at hx
    rcases hx with rfl | rfl | rfl <;> exact w_txt)
  have hB := Of13 A E F hP 0 wB (by decide) (fun x hx => by
    simp only [wB, List.mem_cons, List.not_mem_nil, or_false] at hx
    rcases hx with rfl | rfl | rfl | rfl
    · exact ⟨by decide, fun t ht => by cases ht⟩
    · exact w_txt
    · exact w_txt
    · exact w_n0 0)
  have hC := Is14 A E F hP 0 wA2 (by decide) (fun x hx => by
    simp only [wA2, List.mem_cons, List.not_mem_nil, or_false] at hx
    rcases hx with rfl | rfl <;> exact w_txt)
  have hD := Is14 A E F hP 0 wC (by decide) (fun x hx => by
    simp only [wC, List.mem_cons, List.not_mem_nil, or_false] at hx
    rcases hx with rfl | rfl <;> exact w_txt)
  rw [nfA] at hA
  rw [nfB] at hB
  rw [isA] at hC
  rw [isC] at hD
  have t1 := text24 A E F hP 2 ⟨#[97]⟩
  have t2 := text24 A E F hP 2 ⟨#[98]⟩
  have t3 := text24 A E F hP 3 ⟨#[99]⟩
  have t4 := text24 A E F hP 5 ⟨#[97]⟩
  have t5 := text24 A E F hP 5 ⟨#[98]⟩
  have eN : E.tree.l [] = [] := E.tree.nil
  have eB1 : F.l.v ⟨1, 0, 1, 0, ⟨#[]⟩, .node 5 0 ⟨#[]⟩ []⟩ = .agg [.int .i8 1, .int .i64 0, .int .i64 1, .int .i64 0, .str ⟨#[]⟩, .int .i64 5, .int .i64 0, .str ⟨#[]⟩, .sl 4 []] := by rw [F.v E, eN]
  have eB2 : F.l.v ⟨2, 5, 0, 0, ⟨#[]⟩, n0⟩ = .agg [.int .i8 2, .int .i64 5, .int .i64 0, .int .i64 0, .str ⟨#[]⟩, .int .i64 0, .int .i64 0, .str ⟨#[]⟩, .sl 4 []] := by unfold n0; rw [F.v E, eN]
  unfold wA wA2 at hA
  unfold wB at hB
  unfold wA2 at hC
  unfold wC at hD
  simp only [F.l.cons, F.l.nil, txt_av E F, eB1, eB2] at hA hB hC hD t1 t2 t3 t4 t5
  have hB2 := tpure_sub (args' := [.slt 9 [.agg [.int .i8 1, .int .i64 0, .int .i64 1, .int .i64 0, .str ⟨#[]⟩, .int .i64 5, .int .i64 0, .str ⟨#[]⟩, .nils], .agg [.int .i8 4, .int .i64 5, .int .i64 0, .int .i64 0, .str ⟨#[97]⟩, .int .i64 0, .int .i64 0, .str ⟨#[]⟩, .sl 4 []], .agg [.int .i8 4, .int .i64 5, .int .i64 0, .int .i64 0, .str ⟨#[98]⟩, .int .i64 0, .int .i64 0, .str ⟨#[]⟩, .sl 4 []], .agg [.int .i8 2, .int .i64 5, .int .i64 0, .int .i64 0, .str ⟨#[]⟩, .int .i64 0, .int .i64 0, .str ⟨#[]⟩, .nils]]]) hB (.cons (Rows.sub (by
    repeat (first | exact .nil | refine .cons ?_ ?_ | exact Sub.refl _ | exact Sub.nils _)) (by simp [AV.cells])) .nil)
  clear hB
  refine TPure.ofE A T0 (T0_ok hP) (hP ▸ Try.func9) rfl _ rfl (by simp) ?_
  cbv
  ((try cbv) <;> (repeat ((with_reducible refine EW.of ?_); cbv)))
  (refine ⟨Ent.of (hP ▸ Try.func24) rfl, ?_⟩; refine TC.pureE t1 ?_; cbv; (repeat (first | exact trivial | refine And.intro (Emb.Pur _ _) ?_ | refine And.intro rfl ?_ | refine And.intro (Pur.mk rfl) ?_ | refine And.intro (Pur.mk (by assumption)) ?_)); ((try cbv) <;> (repeat ((with_reducible refine EW.of ?_); cbv))))
  (refine ⟨Ent.of (hP ▸ Try.func24) rfl, ?_⟩; refine TC.pureE t2 ?_; cbv; (repeat (first | exact trivial | refine And.intro (Emb.Pur _ _) ?_ | refine And.intro rfl ?_ | refine And.intro (Pur.mk rfl) ?_ | refine And.intro (Pur.mk (by assumption)) ?_)); ((try cbv) <;> (repeat ((with_reducible refine EW.of ?_); cbv))))
  (refine ⟨Ent.of (hP ▸ Try.func24) rfl, ?_⟩; refine TC.pureE t3 ?_; cbv; (repeat (first | exact trivial | refine And.intro (Emb.Pur _ _) ?_ | refine And.intro rfl ?_ | refine And.intro (Pur.mk rfl) ?_ | refine And.intro (Pur.mk (by assumption)) ?_)); ((try cbv) <;> (repeat ((with_reducible refine EW.of ?_); cbv))))
  (refine ⟨Ent.of (hP ▸ Try.func13) rfl, ?_⟩; refine TC.pureE hA ?_; cbv; (repeat (first | exact trivial | refine And.intro (Emb.Pur _ _) ?_ | refine And.intro rfl ?_ | refine And.intro (Pur.mk rfl) ?_ | refine And.intro (Pur.mk (by assumption)) ?_)); ((try cbv) <;> (repeat ((with_reducible refine EW.of ?_); cbv))))
  (refine ⟨Ent.of (hP ▸ Try.func24) rfl, ?_⟩; refine TC.pureE t4 ?_; cbv; (repeat (first | exact trivial | refine And.intro (Emb.Pur _ _) ?_ | refine And.intro rfl ?_ | refine And.intro (Pur.mk rfl) ?_ | refine And.intro (Pur.mk (by assumption)) ?_)); ((try cbv) <;> (repeat ((with_reducible refine EW.of ?_); cbv))))
  (refine ⟨Ent.of (hP ▸ Try.func24) rfl, ?_⟩; refine TC.pureE t5 ?_; cbv; (repeat (first | exact trivial | refine And.intro (Emb.Pur _ _) ?_ | refine And.intro rfl ?_ | refine And.intro (Pur.mk rfl) ?_ | refine And.intro (Pur.mk (by assumption)) ?_)); ((try cbv) <;> (repeat ((with_reducible refine EW.of ?_); cbv))))
  (refine ⟨Ent.of (hP ▸ Try.func13) rfl, ?_⟩; refine TC.pureE hB2 ?_; cbv; (repeat (first | exact trivial | refine And.intro (Emb.Pur _ _) ?_ | refine And.intro rfl ?_ | refine And.intro (Pur.mk rfl) ?_ | refine And.intro (Pur.mk (by assumption)) ?_)); ((try cbv) <;> (repeat ((with_reducible refine EW.of ?_); cbv))))
  refine byes (show A.eq (A.len _) 2 = true by rw [A.ok_len]; exact eqT rfl) ?_
  ((try cbv) <;> (repeat ((with_reducible refine EW.of ?_); cbv)))
  refine ⟨0, _, rfl, rfl, ?_⟩
  cbv
  refine byes (seqT (by decide)) ?_
  ((try cbv) <;> (repeat ((with_reducible refine EW.of ?_); cbv)))
  refine ⟨1, _, rfl, rfl, ?_⟩
  cbv
  refine byes (seqT (by decide)) ?_
  ((try cbv) <;> (repeat ((with_reducible refine EW.of ?_); cbv)))
  refine byes (show A.eq (A.len []) 0 = true by rw [A.ok_len]; exact eqT rfl) ?_
  ((try cbv) <;> (repeat ((with_reducible refine EW.of ?_); cbv)))
  (refine ⟨Ent.of (hP ▸ Try.func14) rfl, ?_⟩; refine TC.pureE hC ?_; cbv; (repeat (first | exact trivial | refine And.intro (Emb.Pur _ _) ?_ | refine And.intro rfl ?_ | refine And.intro (Pur.mk rfl) ?_ | refine And.intro (Pur.mk (by assumption)) ?_)); ((try cbv) <;> (repeat ((with_reducible refine EW.of ?_); cbv))))
  ((try cbv) <;> (repeat ((with_reducible refine EW.of ?_); cbv)))
  (refine ⟨Ent.of (hP ▸ Try.func24) rfl, ?_⟩; refine TC.pureE t1 ?_; cbv; (repeat (first | exact trivial | refine And.intro (Emb.Pur _ _) ?_ | refine And.intro rfl ?_ | refine And.intro (Pur.mk rfl) ?_ | refine And.intro (Pur.mk (by assumption)) ?_)); ((try cbv) <;> (repeat ((with_reducible refine EW.of ?_); cbv))))
  (refine ⟨Ent.of (hP ▸ Try.func24) rfl, ?_⟩; refine TC.pureE t2 ?_; cbv; (repeat (first | exact trivial | refine And.intro (Emb.Pur _ _) ?_ | refine And.intro rfl ?_ | refine And.intro (Pur.mk rfl) ?_ | refine And.intro (Pur.mk (by assumption)) ?_)); ((try cbv) <;> (repeat ((with_reducible refine EW.of ?_); cbv))))
  (refine ⟨Ent.of (hP ▸ Try.func14) rfl, ?_⟩; refine TC.pureE hD ?_; cbv; (repeat (first | exact trivial | refine And.intro (Emb.Pur _ _) ?_ | refine And.intro rfl ?_ | refine And.intro (Pur.mk rfl) ?_ | refine And.intro (Pur.mk (by assumption)) ?_)); ((try cbv) <;> (repeat ((with_reducible refine EW.of ?_); cbv))))
end Go.Proofs.Ytaieiigfheabfaa
