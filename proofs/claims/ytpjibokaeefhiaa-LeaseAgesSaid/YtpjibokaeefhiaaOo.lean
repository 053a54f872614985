import Derived.Test.YtpjibokaeefhiaaOn
/-! New ages. -/
namespace Go.Proofs.Ytpjibokaeefhiaa
open Go.Proofs.Ytpjibokaeefhiaa.Tw
theorem NewAges40 (A : Ar) {P : Program} (hP : P = Try.prog) (term : Int) (h1 : 1 ≤ term) (h2 : term ≤ 1125899906842624) : TC1 P 40 [.int .i64 term] [] (.tup [.ref 0 3 0 0, .int .i64 0]) [some (.box 3 (.agg [.int .i64 term, .nils, .nils]))] := by
  refine TC1.of A _ _ T0 (T0_ok hP) (hP ▸ Try.func40) rfl _ rfl (by simp) ?_
  cbv
  ((try cbv) <;> (repeat ((with_reducible refine EW.of ?_); cbv)))
  refine bno (ltF (by omega)) ?_
  cbv
  ((try cbv) <;> (repeat ((with_reducible refine EW.of ?_); cbv)))
  refine bno (ltF (by omega)) ?_
  ((try cbv) <;> (repeat ((with_reducible refine EW.of ?_); cbv)))
  refine R1.of ?_
  cbv
  (repeat (first | exact trivial | refine And.intro (Emb.Pur _ _) ?_ | refine And.intro rfl ?_ | refine And.intro (Pur.mk rfl) ?_ | refine And.intro (Pur.mk (by assumption)) ?_))
theorem NewAges40n (A : Ar) {P : Program} (hP : P = Try.prog) (term : Int) (h : term < 1 ∨ 1125899906842624 < term) : TPure P 40 [.int .i64 term] (.tup [.nil, .int .i64 2]) := by
  refine TPure.ofE A T0 (T0_ok hP) (hP ▸ Try.func40) rfl _ rfl (by simp) ?_
  cbv
  ((try cbv) <;> (repeat ((with_reducible refine EW.of ?_); cbv)))
  by_cases h1 : term < 1
  · refine byes (ltT h1) ?_
    cbv
    ((try cbv) <;> (repeat ((with_reducible refine EW.of ?_); cbv)))
  · refine bno (ltF (by omega)) ?_
    cbv
    ((try cbv) <;> (repeat ((with_reducible refine EW.of ?_); cbv)))
    refine byes (ltT (by omega)) ?_
    ((try cbv) <;> (repeat ((with_reducible refine EW.of ?_); cbv)))
theorem NewAges39 (A : Ar) {P : Program} (hP : P = Try.prog) (term : Int) (h1 : 1 ≤ term) (h2 : term ≤ 1125899906842624) : TC1 P 39 [.int .i64 term] [] (.tup [.ref 0 2 0 0, .int .i64 0]) [some (.box 2 (.agg [.map 1, .int .i64 term])), some (.mp 0 [])] := by
  refine TC1.of A _ _ T0 (T0_ok hP) (hP ▸ Try.func39) rfl _ rfl (by simp) ?_
  cbv
  ((try cbv) <;> (repeat ((with_reducible refine EW.of ?_); cbv)))
  refine bno (ltF (by omega)) ?_
  cbv
  ((try cbv) <;> (repeat ((with_reducible refine EW.of ?_); cbv)))
  refine bno (ltF (by omega)) ?_
  ((try cbv) <;> (repeat ((with_reducible refine EW.of ?_); cbv)))
  refine R1.of ?_
  cbv
  (repeat (first | exact trivial | refine And.intro (Emb.Pur _ _) ?_ | refine And.intro rfl ?_ | refine And.intro (Pur.mk rfl) ?_ | refine And.intro (Pur.mk (by assumption)) ?_))
  exact ⟨⟨fun x h => by cases h⟩, trivial⟩
theorem NewAges39n (A : Ar) {P : Program} (hP : P = Try.prog) (term : Int) (h : term < 1 ∨ 1125899906842624 < term) : TPure P 39 [.int .i64 term] (.tup [.nil, .int .i64 2]) := by
  refine TPure.ofE A T0 (T0_ok hP) (hP ▸ Try.func39) rfl _ rfl (by simp) ?_
  cbv
  ((try cbv) <;> (repeat ((with_reducible refine EW.of ?_); cbv)))
  by_cases h1 : term < 1
  · refine byes (ltT h1) ?_
    cbv
    ((try cbv) <;> (repeat ((with_reducible refine EW.of ?_); cbv)))
  · refine bno (ltF (by omega)) ?_
    cbv
    ((try cbv) <;> (repeat ((with_reducible refine EW.of ?_); cbv)))
    refine byes (ltT (by omega)) ?_
    ((try cbv) <;> (repeat ((with_reducible refine EW.of ?_); cbv)))
theorem Age44n (A : Ar) {P : Program} (hP : P = Try.prog) (id : Int) : TPure P 44 [.nil, .int .i64 id] (.int .i64 0) := by
  refine TPure.ofE A T0 (T0_ok hP) (hP ▸ Try.func44) rfl _ rfl (by simp) ?_
  cbv
  ((try cbv) <;> (repeat ((with_reducible refine EW.of ?_); cbv)))
theorem Age44 (A : Ar) {P : Program} (hP : P = Try.prog) (term : Int) (c : Nat) (es : List (Nat × AV × AV)) (id r : Int) (hK : Keys (.int .i64) (.int .i64 id) es) (hM : PurM es) (hr : (lkA (.int .i64 id) es).getD (.int .i64 0) = .int .i64 r) :
    TC1 P 44 [.ref 0 2 0 0, .int .i64 id] [some (.box 2 (.agg [.map 1, .int .i64 term])), some (.mp c es)] (.int .i64 r) [some (.box 2 (.agg [.map 1, .int .i64 term])), some (.mp c es)] := by
  refine TC1.of A _ _ T0 (T0_ok hP) (hP ▸ Try.func44) rfl _ rfl (by simp) ?_
  generalize hlk : lkA (.int .i64 id) es = o at hr
  cbv
  ((try cbv) <;> (repeat ((with_reducible refine EW.of ?_); cbv)))
  refine And.intro hK ⟨_, hlk, ?_⟩
  cases o with
  | none =>
    replace hr : AV.int .i64 0 = .int .i64 r := hr
    cases hr
    cbv
    ((try cbv) <;> (repeat ((with_reducible refine EW.of ?_); cbv)))
    refine R1.of ?_
    cbv
    (repeat (first | exact trivial | refine And.intro (Emb.Pur _ _) ?_ | refine And.intro rfl ?_ | refine And.intro (Pur.mk rfl) ?_ | refine And.intro (Pur.mk (by assumption)) ?_))
    exact ⟨hM, trivial⟩
  | some v =>
    replace hr : v = .int .i64 r := hr
    subst hr
    cbv
    ((try cbv) <;> (repeat ((with_reducible refine EW.of ?_); cbv)))
    refine R1.of ?_
    cbv
    (repeat (first | exact trivial | refine And.intro (Emb.Pur _ _) ?_ | refine And.intro rfl ?_ | refine And.intro (Pur.mk rfl) ?_ | refine And.intro (Pur.mk (by assumption)) ?_))
    exact ⟨hM, trivial⟩
end Go.Proofs.Ytpjibokaeefhiaa
