import Derived.Test.YtlngpfocngfokaaGi
/-! Which rows fit, by the program. -/
namespace Go.Proofs.Ytlngpfocngfokaa
open Go.Proofs.Ytlngpfocngfokaa.Tw
/-- What a slot takes, from a place on. -/
def inF (kids : List Int) (s : Slo) (a : Nat) : Nat → Nat → (Nat → Bool) → (Nat → Bool)
  | 0, _, nx => nx
  | f + 1, n, nx => if s.most < n ∨ (0 < n ∧ mayB (kids.getD (a + n - 1) 0) s.kinds = false) then nx else inF kids s a f (n + 1) (upd nx (a + n) (nx (a + n) || decide (s.least ≤ n)))
def outF (kids : List Int) (s : Slo) (can : Nat → Bool) : Nat → Nat → (Nat → Bool) → (Nat → Bool)
  | 0, _, nx => nx
  | f + 1, a, nx => outF kids s can f (a + 1) (if can a then inF kids s a (kids.length + 1 - a) 0 nx else nx)
def slotsF (kids : List Int) : List Slo → (Nat → Bool) → (Nat → Bool)
  | [], can => can
  | s :: ss, can => slotsF kids ss (outF kids s can (kids.length + 1) 0 fun _ => false)
theorem slotsF_drop {kids : List Int} {l : List Slo} {j : Nat} {x : Slo} {can : Nat → Bool} (h : l[j]? = some x) : slotsF kids (l.drop j) can = slotsF kids (l.drop (j + 1)) (outF kids x can (kids.length + 1) 0 fun _ => false) := by
  rw [List.drop_eq_getElem?_toList_append, h]
  rfl
def can0 : Nat → Bool := upd (fun _ => false) 0 true
def fitsO (kids : List Int) : Option Knd → Bool
  | none => false
  | some x => if 200 < kids.length then false else slotsF kids x.slots can0 kids.length
def fitsB (g : Gra) (k : Int) (kids : List Int) : Bool := fitsO kids (kindO g k)
theorem EmR.pur1 (R : EmR) (n : Nat) (f : Nat → Bool) : Tw.Pur [.agg (R.l n f)] := ⟨by
  have := R.purL n f
  simp only [Tw.purL, AV.pur, Bool.and_true]
  exact this⟩
theorem acons {a : AV} {l r : List AV} {X : AV → Prop} : l = a :: r → X a → (match l with | c :: _ => X c | [] => False) := by rintro rfl hX; exact hX
theorem add_nat (A : Ar) {a b : Nat} (h : a + b ≤ 9223372036854775807) : A.op .add .i64 (a : Int) (b : Int) = ((a + b : Nat) : Int) := by
  rw [add_i64 rfl rfl (by omega) (by omega)]; omega
set_option maxRecDepth 100000 in
set_option maxHeartbeats 4000000 in
theorem Fits12 (A : Ar) (E : Em) (G : EmG) (H : EmN) (R : EmR) {P : Program} (hP : P = Try.prog) (g : Gra) (hg : g.ok) (k : Int) (kids : List Int) (hkl : kids.length ≤ 9223372036854775807) : TPure P 12 [G.gv g, .int .i64 k, .sl 1 (E.int.l kids)] (.bool (fitsB g k kids)) := by
  have h37 := kind37 A E G H hP g hg k
  have hmem : ∀ x, kindO g k = some x → x.slots.length ≤ 9223372036854775807 ∧ ∀ s ∈ x.slots, s.kinds.length ≤ 9223372036854775807 := fun x hx => by
    unfold kindO at hx
    split at hx
    · exact hg.slots x (List.mem_of_getElem? hx)
    · cases hx
  have hll := E.int.len kids
  have hlk : A.len (E.int.l kids) = (kids.length : Int) := by rw [A.ok_len, hll]
  obtain ⟨N, hN⟩ : ∃ N, N = kids.length := ⟨_, rfl⟩
  rw [← hN] at hlk hll hkl
  unfold fitsB
  generalize kindO g k = o at h37 hmem
  obtain ⟨ks, root⟩ := g
  unfold EmG.gv
  dsimp only at h37 ⊢
  cases o with
  | none =>
    replace h37 : TPure P _ _ .nil := h37
    dsimp only [fitsO]
    refine TPure.ofE A T0 (T0_ok hP) (hP ▸ Try.func12) rfl _ rfl (by simp) ?_
    cbv
    refine EW.vs [(6, .bool false), (3, .imm [.sl 3 (G.kind.l ks), .int .i64 root]), (1, .int .i64 k), (2, .sl 1 (E.int.l kids))] [] 105 rfl ?_
    cbv
    refine And.intro (Pur.mk (by (repeat (first | exact rfl | exact Emb.purL _ _ | assumption | apply pur_cons | apply pur_sl | apply pur_slt | apply pur_agg | apply pur_tup)))) (And.intro (E.int.Pur _) ?_)
    ((try cbv) <;> (repeat ((with_reducible refine EW.of ?_); cbv)))
    (refine ⟨Ent.of (hP ▸ Try.func37) rfl, ?_⟩; refine TC.pureE h37 ?_; cbv; (repeat (first | exact trivial | refine And.intro (Emb.Pur _ _) ?_ | refine And.intro rfl ?_ | refine And.intro (Pur.mk rfl) ?_ | refine And.intro (Pur.mk (by assumption)) ?_)); ((try cbv) <;> (repeat ((with_reducible refine EW.of ?_); cbv))))
  | some x =>
    have hxs := hmem x rfl
    obtain ⟨xn, xt, ss⟩ := x
    dsimp only at hxs
    have hsl := G.slot.len ss
    have hsk : A.len (G.slot.l ss) = (ss.length : Int) := by rw [A.ok_len, hsl]
    replace h37 : TPure P _ _ (.imm [.str xn, .bool xt, .sl 3 (G.slot.l ss)]) := h37
    obtain ⟨r, hr⟩ : ∃ r, r = fitsO kids (some ⟨xn, xt, ss⟩) := ⟨_, rfl⟩
    rw [← hr]
    unfold fitsO at hr
    dsimp only at hr
    rw [← hN] at hr
    refine TPure.ofE A T0 (T0_ok hP) (hP ▸ Try.func12) rfl _ rfl (by simp) ?_
    cbv
    refine EW.vs [(6, .bool false), (3, .imm [.sl 3 (G.kind.l ks), .int .i64 root]), (1, .int .i64 k), (2, .sl 1 (E.int.l kids))] [] 105 rfl ?_
    cbv
    refine And.intro (Pur.mk (by (repeat (first | exact rfl | exact Emb.purL _ _ | assumption | apply pur_cons | apply pur_sl | apply pur_slt | apply pur_agg | apply pur_tup)))) (And.intro (E.int.Pur _) ?_)
    ((try cbv) <;> (repeat ((with_reducible refine EW.of ?_); cbv)))
    (refine ⟨Ent.of (hP ▸ Try.func37) rfl, ?_⟩; refine TC.pureE h37 ?_; cbv; (repeat (first | exact trivial | refine And.intro (Emb.Pur _ _) ?_ | refine And.intro rfl ?_ | refine And.intro (Pur.mk rfl) ?_ | refine And.intro (Pur.mk (by assumption)) ?_)); ((try cbv) <;> (repeat ((with_reducible refine EW.of ?_); cbv))))
    refine bsplit (fun h => ?_) (fun h => ?_)
    · have h : 200 < N := (by first | exact lt_t h (by first | rfl | assumption) (by first | rfl | assumption) | exact le_t h (by first | rfl | assumption) (by first | rfl | assumption) | exact eq_t h (by first | rfl | assumption) (by first | rfl | assumption) | exact ne_t h (by first | rfl | assumption) (by first | rfl | assumption) | exact lt_nt h (by first | rfl | assumption) (by first | rfl | assumption) | exact le_nt h (by first | rfl | assumption) (by first | rfl | assumption) | exact ne_nt h (by first | rfl | assumption) (by first | rfl | assumption) | exact seq_t h | exact (sne_t h))
      rw [if_pos h] at hr
      subst hr
      cbv
      ((try cbv) <;> (repeat ((with_reducible refine EW.of ?_); cbv)))
    have h : ¬ (200 < N) := (by first | exact not_lt_f h (by first | rfl | assumption) (by first | rfl | assumption) | exact not_le_f h (by first | rfl | assumption) (by first | rfl | assumption) | exact eq_f h (by first | rfl | assumption) (by first | rfl | assumption) | exact not_ne_f h (by first | rfl | assumption) (by first | rfl | assumption) | exact not_lt_nf h (by first | rfl | assumption) (by first | rfl | assumption) | exact not_le_nf h (by first | rfl | assumption) (by first | rfl | assumption) | exact not_ne_nf h (by first | rfl | assumption) (by first | rfl | assumption))
    ((try cbv) <;> (repeat ((with_reducible refine EW.of ?_); cbv)))
    rw [if_neg h] at hr
    have h200 : N ≤ 200 := by omega
    refine TW.vsE [(29, .int .i64 0), (28, .int .i64 (A.len (G.slot.l ss))), (8, .ref 0 201 0 0), (7, .imm [.str xn, .bool xt, .sl 3 (G.slot.l ss)]), (6, .bool false), (2, .sl 1 (E.int.l kids))] [some (.box 201 (.agg (R.l 201 can0)))] 105 rfl ?_
    cbv
    refine And.intro (congrArg AV.agg (show _ = R.l 201 can0 by rw [R.ok]; rfl)) (And.intro (R.pur1 _ _) (And.intro (G.slot.Pur _) (And.intro (E.int.Pur _) ?_)))
    obtain ⟨S, hS⟩ : ∃ S : LI (Nat × (Nat → Bool)), S = ⟨fun x => [(29, .int .i64 x.1), (28, .int .i64 (A.len (G.slot.l ss))), (8, .ref 0 201 0 0), (7, .imm [.str xn, .bool xt, .sl 3 (G.slot.l ss)]), (6, .bool false), (2, .sl 1 (E.int.l kids))], fun x => [some (.box 201 (.agg (R.l 201 x.2)))], fun x => x.1 ≤ ss.length ∧ r = slotsF kids (ss.drop x.1) x.2 N, fun x => ss.length - x.1⟩ := ⟨_, rfl⟩
    refine TW.loopM A (T0_ok hP) S _ rfl (0, can0) ?_ ?_ ?_
    · rw [hS]; exact ⟨Nat.zero_le _, hr⟩
    · rw [hS]
      cbv
      (repeat (first | exact trivial | refine And.intro (R.pur1 _ _) ?_ | refine And.intro (Emb.Pur _ _) ?_ | refine And.intro (inc_eq A (by omega)) ?_ | refine And.intro rfl ?_ | refine And.intro (Pur.mk rfl) ?_))
    rintro ⟨j, can⟩ hj l1 L1 e1 e2
    rw [hS] at hj e1 e2
    dsimp only at hj e1 e2
    obtain ⟨hj, hinv⟩ := hj
    subst e1 e2
    cbv
    ((try cbv) <;> (repeat ((with_reducible refine EW.of ?_); cbv)))
    refine bsplit (fun h1 => ?_) (fun h1 => ?_)
    · have h1 : j < ss.length := lt_nt h1 rfl hsk
      obtain ⟨s, hs⟩ : ∃ s, ss[j]? = some s := ⟨_, List.getElem?_eq_getElem h1⟩
      rw [slotsF_drop hs] at hinv
      have hgs := G.gets E hs
      have hks9 := hxs.2 s (List.mem_of_getElem? hs)
      ((try cbv) <;> (repeat ((with_reducible refine EW.of ?_); cbv)))
      (refine ⟨_, _, rfl, hgs, ?_⟩; cbv; ((try cbv) <;> (repeat ((with_reducible refine EW.of ?_); cbv))))
      obtain ⟨M, hM⟩ : ∃ M, M = N + 1 := ⟨_, rfl⟩
      rw [← hN, ← hM] at hinv
      have hN1 : A.op .add .i64 (A.len (E.int.l kids)) 1 = (M : Int) := by rw [hlk, hM]; exact inc_eq A (by omega)
      refine TW.vsE [(41, .int .i64 0), (40, .int .i64 (M : Int)), (11, .ref 1 201 0 0), (10, .imm [.sl 1 (E.int.l s.kinds), .int .i64 s.least, .int .i64 s.most]), (29, .int .i64 j), (28, .int .i64 (A.len (G.slot.l ss))), (8, .ref 0 201 0 0), (7, .imm [.str xn, .bool xt, .sl 3 (G.slot.l ss)]), (6, .bool false), (2, .sl 1 (E.int.l kids))] [some (.box 201 (.agg (R.l 201 can))), some (.box 201 (.agg (R.l 201 fun _ => false)))] 105 rfl ?_
      cbv
      (repeat (first | exact trivial | refine And.intro (R.pur1 _ _) ?_ | refine And.intro (Emb.Pur _ _) ?_ | refine And.intro hN1 ?_ | refine And.intro rfl ?_ | refine And.intro (congrArg AV.agg (show _ = R.l 201 (fun _ => false) by rw [R.ok]; rfl)) ?_ | refine And.intro (Pur.mk rfl) ?_))
      obtain ⟨slk, sll, slm⟩ := s
      dsimp only at hgs hks9 hinv ⊢
      obtain ⟨S2, hS2⟩ : ∃ S : LI (Nat × (Nat → Bool)), S = ⟨fun x => [(41, .int .i64 x.1), (40, .int .i64 (M : Int)), (11, .ref 1 201 0 0), (10, .imm [.sl 1 (E.int.l slk), .int .i64 sll, .int .i64 slm]), (29, .int .i64 j), (28, .int .i64 (A.len (G.slot.l ss))), (8, .ref 0 201 0 0), (7, .imm [.str xn, .bool xt, .sl 3 (G.slot.l ss)]), (6, .bool false), (2, .sl 1 (E.int.l kids))], fun x => [some (.box 201 (.agg (R.l 201 can))), some (.box 201 (.agg (R.l 201 x.2)))], fun x => x.1 ≤ M ∧ r = slotsF kids (ss.drop (j + 1)) (outF kids ⟨slk, sll, slm⟩ can (M - x.1) x.1 x.2) N, fun x => M - x.1⟩ := ⟨_, rfl⟩
      refine TW.loopM A (T0_ok hP) S2 _ rfl (0, fun _ => false) ?_ ?_ ?_
      · rw [hS2]; exact ⟨Nat.zero_le _, hinv⟩
      · rw [hS2]
        cbv
        (repeat (first | exact trivial | refine And.intro (R.pur1 _ _) ?_ | refine And.intro (Emb.Pur _ _) ?_ | refine And.intro (inc_eq A (by omega)) ?_ | refine And.intro rfl ?_ | refine And.intro (Pur.mk rfl) ?_))
      rintro ⟨a, nx⟩ ha l1 L1 e1 e2
      rw [hS2] at ha e1 e2
      dsimp only at ha e1 e2
      obtain ⟨ha, hinv2⟩ := ha
      subst e1 e2
      cbv
      ((try cbv) <;> (repeat ((with_reducible refine EW.of ?_); cbv)))
      refine bsplit (fun h2 => ?_) (fun h2 => ?_)
      · have h2 : a < M := lt_nt h2 rfl rfl
        have ha1 : a + 1 ≤ M := h2
        rw [show M - a = (M - (a + 1)) + 1 by omega, outF, show kids.length + 1 = M by rw [hM, hN]] at hinv2
        obtain ⟨rest, hrest⟩ := R.drop can (show a < 201 by omega)
        obtain ⟨b, hb⟩ : ∃ b, b = can a := ⟨_, rfl⟩
        rw [← hb] at hrest hinv2
        ((try cbv) <;> (repeat ((with_reducible refine EW.of ?_); cbv)))
        refine ⟨a, rfl, by omega, a, by omega, ?_⟩
        cbv
        refine acons ((List.drop.eq_def _ _).symm.trans hrest) ?_
        cases b with
        | false =>
          rw [if_neg (by decide)] at hinv2
          ((try cbv) <;> (repeat ((with_reducible refine EW.of ?_); cbv)))
          refine LM.of (a + 1, nx) rfl ?_ ?_ ?_
          · rw [hS2]; exact ⟨ha1, hinv2⟩
          · rw [hS2]; show M - (a + 1) < M - a; omega
          · rw [hS2]
            cbv
            (repeat (first | exact trivial | refine And.intro (R.pur1 _ _) ?_ | refine And.intro (Emb.Pur _ _) ?_ | refine And.intro (inc_eq A (by omega)) ?_ | refine And.intro rfl ?_ | refine And.intro (Pur.mk rfl) ?_))
        | true =>
          rw [if_pos rfl] at hinv2
          ((try cbv) <;> (repeat ((with_reducible refine EW.of ?_); cbv)))
          obtain ⟨S3, hS3⟩ : ∃ S : LI (Nat × (Nat → Bool)), S = ⟨fun x => [(13, .int .i64 x.1), (12, .int .i64 a), (41, .int .i64 a), (40, .int .i64 (M : Int)), (11, .ref 1 201 0 0), (10, .imm [.sl 1 (E.int.l slk), .int .i64 sll, .int .i64 slm]), (29, .int .i64 j), (28, .int .i64 (A.len (G.slot.l ss))), (8, .ref 0 201 0 0), (7, .imm [.str xn, .bool xt, .sl 3 (G.slot.l ss)]), (6, .bool false), (2, .sl 1 (E.int.l kids))], fun x => [some (.box 201 (.agg (R.l 201 can))), some (.box 201 (.agg (R.l 201 x.2)))], fun x => a + x.1 ≤ M ∧ r = slotsF kids (ss.drop (j + 1)) (outF kids ⟨slk, sll, slm⟩ can (M - (a + 1)) (a + 1) (inF kids ⟨slk, sll, slm⟩ a (M - a - x.1) x.1 x.2)) N, fun x => M - x.1⟩ := ⟨_, rfl⟩
          refine TW.loopM A (T0_ok hP) S3 _ rfl (0, nx) ?_ ?_ ?_
          · rw [hS3]; exact ⟨ha, hinv2⟩
          · rw [hS3]
            cbv
            (repeat (first | exact trivial | refine And.intro (R.pur1 _ _) ?_ | refine And.intro (Emb.Pur _ _) ?_ | refine And.intro (inc_eq A (by omega)) ?_ | refine And.intro rfl ?_ | refine And.intro (Pur.mk rfl) ?_))
          clear hinv2 hrest
          rintro ⟨n, nx⟩ hn l1 L1 e1 e2
          rw [hS3] at hn e1 e2
          dsimp only at hn e1 e2
          obtain ⟨hn, hinv2⟩ := hn
          subst e1 e2
          have hadd := add_nat A (a := a) (b := n) (by omega)
          cbv
          ((try cbv) <;> (repeat ((with_reducible refine EW.of ?_); cbv)))
          refine bsplit (fun h3 => ?_) (fun h3 => ?_)
          · have h3 : a + n ≤ N := le_nt h3 hadd hlk
            rw [show M - a - n = (M - a - (n + 1)) + 1 by omega, inF] at hinv2
            ((try cbv) <;> (repeat ((with_reducible refine EW.of ?_); cbv)))
            refine bsplit (fun h4 => ?_) (fun h4 => ?_)
            · have h4 : ¬ slm < (n : Int) := Int.not_lt.2 (le_t h4 rfl rfl)
              obtain ⟨rest3, hrest3⟩ := R.drop nx (show a + n < 201 by omega)
              obtain ⟨an, han⟩ : ∃ an, an = a + n := ⟨_, rfl⟩
              rw [← han] at hadd hrest3
              obtain ⟨old, hold⟩ : ∃ b, b = nx an := ⟨_, rfl⟩
              rw [← hold] at hrest3
              obtain ⟨nv, hnv⟩ : ∃ b, b = (old || decide (sll ≤ (n : Int))) := ⟨_, rfl⟩
              obtain ⟨nx2, hnx2⟩ : ∃ f, f = upd nx an nv := ⟨_, rfl⟩
              have hset := R.set (n := 201) (i := an) nx nv
              rw [← hnx2] at hset
              rw [← han, ← hold, ← hnv, ← hnx2] at hinv2
              have han2 : a + (n + 1) ≤ M := by omega
              ((try cbv) <;> (repeat ((with_reducible refine EW.of ?_); cbv)))
              (refine TW.draw (A := A) (T0_ok hP) (hP ▸ follows_mixed) (by kernel_rfl) rfl ?_; cbv)
              by_cases hn0 : n = 0
              · refine bno (show A.lt 0 (n : Int) = false from ltF (by omega)) ?_
                rw [if_neg (fun hc => hc.elim h4 (fun hc => absurd hc.1 (by omega)))] at hinv2
                ((try cbv) <;> (repeat ((with_reducible refine EW.of ?_); cbv)))
                refine ⟨an, hadd, by omega, an, by omega, ?_⟩
                cbv
                refine acons ((List.drop.eq_def _ _).symm.trans hrest3) ?_
                cases old with
                | true =>
                  have hv : nv = true := by rw [hnv]; rfl
                  rw [hv] at hset
                  cbv
                  ((try cbv) <;> (repeat ((with_reducible refine EW.of ?_); cbv)))
                  refine ⟨an, hadd, by omega, an, by omega, ?_⟩
                  cbv
                  refine ⟨R.l 201 nx2, by first | exact hset.symm | exact hset.symm.trans (List.set.eq_def _ _ _), by omega, by first | exact R.scal _ _ | exact (List.all.eq_def _ _).symm.trans (R.scal _ _), ?_⟩
                  cbv
                  ((try cbv) <;> (repeat ((with_reducible refine EW.of ?_); cbv)))
                  refine LM.of (n + 1, nx2) rfl ?_ ?_ ?_
                  · rw [hS3]; exact ⟨han2, hinv2⟩
                  · rw [hS3]; show M - (n + 1) < M - n; omega
                  · rw [hS3]
                    cbv
                    (repeat (first | exact trivial | refine And.intro (R.pur1 _ _) ?_ | refine And.intro (Emb.Pur _ _) ?_ | refine And.intro (inc_eq A (by omega)) ?_ | refine And.intro rfl ?_ | refine And.intro (Pur.mk rfl) ?_))
                | false =>
                  have hv : nv = A.le sll (n : Int) := by rw [hnv, A.ok_le]; rfl
                  rw [hv] at hset
                  cbv
                  ((try cbv) <;> (repeat ((with_reducible refine EW.of ?_); cbv)))
                  refine ⟨an, hadd, by omega, an, by omega, ?_⟩
                  cbv
                  refine ⟨R.l 201 nx2, by first | exact hset.symm | exact hset.symm.trans (List.set.eq_def _ _ _), by omega, by first | exact R.scal _ _ | exact (List.all.eq_def _ _).symm.trans (R.scal _ _), ?_⟩
                  cbv
                  ((try cbv) <;> (repeat ((with_reducible refine EW.of ?_); cbv)))
                  refine LM.of (n + 1, nx2) rfl ?_ ?_ ?_
                  · rw [hS3]; exact ⟨han2, hinv2⟩
                  · rw [hS3]; show M - (n + 1) < M - n; omega
                  · rw [hS3]
                    cbv
                    (repeat (first | exact trivial | refine And.intro (R.pur1 _ _) ?_ | refine And.intro (Emb.Pur _ _) ?_ | refine And.intro (inc_eq A (by omega)) ?_ | refine And.intro rfl ?_ | refine And.intro (Pur.mk rfl) ?_))
              · refine byes (show A.lt 0 (n : Int) = true from ltT (by omega)) ?_
                have hsub0 : A.op .sub .i64 (an : Int) 1 = ((an - 1 : Nat) : Int) := by rw [sub_i64 rfl rfl (by omega) (by omega)]; omega
                have hsub : A.op .sub .i64 (A.op .add .i64 (a : Int) (n : Int)) 1 = ((an - 1 : Nat) : Int) := by rw [hadd]; exact hsub0
                obtain ⟨x, hx⟩ : ∃ x, kids[an - 1]? = some x := ⟨_, List.getElem?_eq_getElem (by omega)⟩
                have k38 := Contains38 A E hP slk hks9 x
                have hgd : kids.getD (an - 1) 0 = x := by rw [List.getD_eq_getElem?_getD, hx]; rfl
                rw [hgd] at hinv2
                obtain ⟨mb, hmb⟩ : ∃ b, b = mayB x slk := ⟨_, rfl⟩
                rw [← hmb] at k38 hinv2
                cbv
                refine ⟨an - 1, _, hsub, E.geti hx, ?_⟩
                cbv
                (refine ⟨Ent.of (hP ▸ Try.func38) rfl, ?_⟩; refine ⟨_, TC.pureX k38 (by cbv; (repeat (first | exact trivial | refine And.intro (Emb.Pur _ _) ?_ | refine And.intro rfl ?_ | refine And.intro (Pur.mk rfl) ?_ | refine And.intro (Pur.mk (by assumption)) ?_))), ?_⟩; cbv)
                cases mb with
                | true =>
                  rw [if_neg (fun hc => hc.elim h4 (fun hc => by cases hc.2))] at hinv2
                  ((try cbv) <;> (repeat ((with_reducible refine EW.of ?_); cbv)))
                  refine ⟨an, hadd, by omega, an, by omega, ?_⟩
                  cbv
                  refine acons ((List.drop.eq_def _ _).symm.trans hrest3) ?_
                  cases old with
                  | true =>
                    have hv : nv = true := by rw [hnv]; rfl
                    rw [hv] at hset
                    cbv
                    ((try cbv) <;> (repeat ((with_reducible refine EW.of ?_); cbv)))
                    refine ⟨an, hadd, by omega, an, by omega, ?_⟩
                    cbv
                    refine ⟨R.l 201 nx2, by first | exact hset.symm | exact hset.symm.trans (List.set.eq_def _ _ _), by omega, by first | exact R.scal _ _ | exact (List.all.eq_def _ _).symm.trans (R.scal _ _), ?_⟩
                    cbv
                    ((try cbv) <;> (repeat ((with_reducible refine EW.of ?_); cbv)))
                    refine LM.of (n + 1, nx2) rfl ?_ ?_ ?_
                    · rw [hS3]; exact ⟨han2, hinv2⟩
                    · rw [hS3]; show M - (n + 1) < M - n; omega
                    · rw [hS3]
                      cbv
                      (repeat (first | exact trivial | refine And.intro (R.pur1 _ _) ?_ | refine And.intro (Emb.Pur _ _) ?_ | refine And.intro (inc_eq A (by omega)) ?_ | refine And.intro rfl ?_ | refine And.intro (Pur.mk rfl) ?_))
                  | false =>
                    have hv : nv = A.le sll (n : Int) := by rw [hnv, A.ok_le]; rfl
                    rw [hv] at hset
                    cbv
                    ((try cbv) <;> (repeat ((with_reducible refine EW.of ?_); cbv)))
                    refine ⟨an, hadd, by omega, an, by omega, ?_⟩
                    cbv
                    refine ⟨R.l 201 nx2, by first | exact hset.symm | exact hset.symm.trans (List.set.eq_def _ _ _), by omega, by first | exact R.scal _ _ | exact (List.all.eq_def _ _).symm.trans (R.scal _ _), ?_⟩
                    cbv
                    ((try cbv) <;> (repeat ((with_reducible refine EW.of ?_); cbv)))
                    refine LM.of (n + 1, nx2) rfl ?_ ?_ ?_
                    · rw [hS3]; exact ⟨han2, hinv2⟩
                    · rw [hS3]; show M - (n + 1) < M - n; omega
                    · rw [hS3]
                      cbv
                      (repeat (first | exact trivial | refine And.intro (R.pur1 _ _) ?_ | refine And.intro (Emb.Pur _ _) ?_ | refine And.intro (inc_eq A (by omega)) ?_ | refine And.intro rfl ?_ | refine And.intro (Pur.mk rfl) ?_))
                | false =>
                  rw [if_pos (.inr ⟨by omega, rfl⟩)] at hinv2
                  ((try cbv) <;> (repeat ((with_reducible refine EW.of ?_); cbv)))
                  refine LM.of (a + 1, nx) rfl ?_ ?_ ?_
                  · rw [hS2]; exact ⟨ha1, hinv2⟩
                  · rw [hS2]; show M - (a + 1) < M - a; omega
                  · rw [hS2]
                    cbv
                    (repeat (first | exact trivial | refine And.intro (R.pur1 _ _) ?_ | refine And.intro (Emb.Pur _ _) ?_ | refine And.intro (inc_eq A (by omega)) ?_ | refine And.intro rfl ?_ | refine And.intro (Pur.mk rfl) ?_))
            · have h4 : slm < (n : Int) := le_f h4 rfl rfl
              rw [if_pos (.inl h4)] at hinv2
              ((try cbv) <;> (repeat ((with_reducible refine EW.of ?_); cbv)))
              refine LM.of (a + 1, nx) rfl ?_ ?_ ?_
              · rw [hS2]; exact ⟨ha1, hinv2⟩
              · rw [hS2]; show M - (a + 1) < M - a; omega
              · rw [hS2]
                cbv
                (repeat (first | exact trivial | refine And.intro (R.pur1 _ _) ?_ | refine And.intro (Emb.Pur _ _) ?_ | refine And.intro (inc_eq A (by omega)) ?_ | refine And.intro rfl ?_ | refine And.intro (Pur.mk rfl) ?_))
          · have h3 : N < a + n := le_nf h3 hadd hlk
            rw [show M - a - n = 0 by omega, inF] at hinv2
            ((try cbv) <;> (repeat ((with_reducible refine EW.of ?_); cbv)))
            refine LM.of (a + 1, nx) rfl ?_ ?_ ?_
            · rw [hS2]; exact ⟨ha1, hinv2⟩
            · rw [hS2]; show M - (a + 1) < M - a; omega
            · rw [hS2]
              cbv
              (repeat (first | exact trivial | refine And.intro (R.pur1 _ _) ?_ | refine And.intro (Emb.Pur _ _) ?_ | refine And.intro (inc_eq A (by omega)) ?_ | refine And.intro rfl ?_ | refine And.intro (Pur.mk rfl) ?_))
      · have h2 : M ≤ a := lt_nf h2 rfl rfl
        rw [show M - a = 0 by omega, outF] at hinv2
        ((try cbv) <;> (repeat ((with_reducible refine EW.of ?_); cbv)))
        refine ⟨R.l 201 nx, (List.take_of_length_le (by rw [R.len]; exact Nat.le_refl _)).symm, by show 201 ≤ (R.l 201 nx).length; rw [R.len]; exact Nat.le_refl _, ?_⟩
        cbv
        refine ⟨by first | exact R.len _ _ | exact (List.length.eq_def _).symm.trans (R.len _ _), by first | exact R.len _ _ | exact (List.length.eq_def _).symm.trans (R.len _ _), by first | exact R.scal _ _ | exact (List.all.eq_def _ _).symm.trans (R.scal _ _), ?_⟩
        cbv
        ((try cbv) <;> (repeat ((with_reducible refine EW.of ?_); cbv)))
        refine LM.of (j + 1, nx) rfl ?_ ?_ ?_
        · rw [hS]; exact ⟨by show j + 1 ≤ _; omega, hinv2⟩
        · rw [hS]; show ss.length - (j + 1) < ss.length - j; omega
        · rw [hS]
          cbv
          (repeat (first | exact trivial | refine And.intro (R.pur1 _ _) ?_ | refine And.intro (Emb.Pur _ _) ?_ | refine And.intro (inc_eq A (by omega)) ?_ | refine And.intro rfl ?_ | refine And.intro (Pur.mk rfl) ?_))
    · have h1 : ss.length ≤ j := lt_nf h1 rfl hsk
      rw [List.drop_eq_nil_of_le h1] at hinv
      replace hinv : r = can N := hinv
      ((try cbv) <;> (repeat ((with_reducible refine EW.of ?_); cbv)))
      obtain ⟨rest, hrest⟩ := R.drop can (show N < 201 by omega)
      rw [← hinv] at hrest
      refine ⟨N, hlk, by omega, N, by omega, ?_⟩
      cbv
      refine acons ((List.drop.eq_def _ _).symm.trans hrest) ?_
      ((try cbv) <;> (repeat ((with_reducible refine EW.of ?_); cbv)))
end Go.Proofs.Ytlngpfocngfokaa
