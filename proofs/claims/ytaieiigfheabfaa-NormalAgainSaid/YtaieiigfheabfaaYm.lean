import Derived.Test.YtaieiigfheabfaaYl
/-! The reference's Pair. -/
namespace Go.Proofs.Ytaieiigfheabfaa
open Go.Proofs.Ytaieiigfheabfaa.Tw
theorem pairF_1 {a b : Stp} (h : a.op = b.op ∧ (a.op = 4 ∨ a.op = 3) ∧ a.id = b.id) : pairF a b = some [b] := by
  unfold pairF
  by_cases h1 : a.op = 4 ∧ b.op = 4 ∧ a.id = b.id
  · rw [if_pos h1]
  rw [if_neg h1, if_pos (by omega)]
theorem pairF_2 {a b : Stp} (h : ¬ (a.op = b.op ∧ (a.op = 4 ∨ a.op = 3) ∧ a.id = b.id)) (h2 : a.op = 1 ∧ b.op = 2 ∧ a.sub.id = b.id) : pairF a b = some [] := by
  unfold pairF
  rw [if_neg (by omega), if_neg (by omega), if_pos h2]
theorem pairF_3 {a b : Stp} (h : ¬ (a.op = b.op ∧ (a.op = 4 ∨ a.op = 3) ∧ a.id = b.id)) (h2 : ¬ (a.op = 1 ∧ b.op = 2 ∧ a.sub.id = b.id)) (h3 : a.op = 1 ∧ b.op = 4) : pairF a b = if (textT b.id b.text a.sub).2 = true then some [{ a with sub := (textT b.id b.text a.sub).1 }] else none := by
  unfold pairF
  rw [if_neg (by omega), if_neg (by omega), if_neg h2]
  by_cases h5 : (textT b.id b.text a.sub).2 = true
  · rw [if_pos ⟨h3.1, h3.2, h5⟩, if_pos h5]
  · rw [if_neg (fun h => h5 h.2.2), if_neg h5]
theorem pairF_4 {a b : Stp} (h : ¬ (a.op = b.op ∧ (a.op = 4 ∨ a.op = 3) ∧ a.id = b.id)) (h2 : ¬ (a.op = 1 ∧ b.op = 2 ∧ a.sub.id = b.id)) (h3 : ¬ (a.op = 1 ∧ b.op = 4)) : pairF a b = none := by
  unfold pairF
  rw [if_neg (by omega), if_neg (by omega), if_neg h2, if_neg (fun h => h3 ⟨h.1, h.2.1⟩)]
set_option maxHeartbeats 4000000 in
theorem Pair11 (A : Ar) (E : Em) (F : EmS) {P : Program} (hP : P = Try.prog) (n : Nat) (a b : Stp) (hwa : within (n + 1) a.sub) (hwb : within (n + 1) b.sub) : TPure P 11 [F.l.v a, F.l.v b] (.tup [.sl 9 (F.l.l ((pairF a b).getD [])), .bool (pairF a b).isSome]) := by
  have hca := copied26 A E F hP (n + 1) a hwa
  have hcb := copied26 A E F hP (n + 1) b hwb
  have hw := with27 A E hP b.id b.text (n + 1) a.sub hwa
  have q1 := @pairF_1 a b
  have q2 := @pairF_2 a b
  have q3 := @pairF_3 a b
  have q4 := @pairF_4 a b
  obtain ⟨o, ho⟩ : ∃ o, o = pairF a b := ⟨_, rfl⟩
  rw [← ho] at q1 q2 q3 q4 ⊢
  clear ho
  obtain ⟨lb, hlb⟩ : ∃ l, l = F.l.l [b] := ⟨_, rfl⟩
  have plb : Tw.Pur lb := by rw [hlb]; exact Emb.Pur _ _
  have hlb2 : lb = [F.l.v b] := by rw [hlb, F.l.cons, F.l.nil]
  obtain ⟨lo, hlo⟩ : ∃ l, l = F.l.l (o.getD []) := ⟨_, rfl⟩
  obtain ⟨os, hos⟩ : ∃ b, b = o.isSome := ⟨_, rfl⟩
  rw [← hlo, ← hos]
  obtain ⟨y, hy⟩ : ∃ y, y = (textT b.id b.text a.sub).1 := ⟨_, rfl⟩
  obtain ⟨bb, hbb⟩ : ∃ y, y = (textT b.id b.text a.sub).2 := ⟨_, rfl⟩
  rw [← hy, ← hbb] at q3 hw
  obtain ⟨yi, yk, ys, yks, hy2⟩ : ∃ i k s ks, y = Tree.node i k s ks := by cases y; exact ⟨_, _, _, _, rfl⟩
  have eY : E.tree.v y = .agg [.int .i64 yi, .int .i64 yk, .str ys, .sl 4 (E.tree.l yks)] := by rw [hy2]; exact E.node ..
  obtain ⟨op1, id1, par1, pl1, tx1, i1, k1, s1, ks1⟩ := a
  obtain ⟨op2, id2, par2, pl2, tx2, i2, k2, s2, ks2⟩ := b
  dsimp only at q1 q2 q3 q4
  rw [F.v E] at hca hcb hlb2
  rw [F.v E, F.v E]
  dsimp only at hw
  rw [eY, E.node] at hw
  obtain ⟨ly, hly⟩ : ∃ l, l = F.l.l [⟨op1, id1, par1, pl1, tx1, y⟩] := ⟨_, rfl⟩
  have ply : Tw.Pur ly := by rw [hly]; exact Emb.Pur _ _
  have hly2 : ly = [.agg [.int .i8 op1, .int .i64 id1, .int .i64 par1, .int .i64 pl1, .str tx1, .int .i64 yi, .int .i64 yk, .str ys, .sl 4 (E.tree.l yks)]] := by rw [hly, hy2, F.l.cons, F.l.nil, F.v E]
  refine TPure.ofE A T0 (T0_ok hP) (hP ▸ Try.func11) rfl _ rfl (by simp) ?_
  cbv
  ((try cbv) <;> (repeat ((with_reducible refine EW.of ?_); cbv)))
  refine bsplit (fun h => ?_) (fun h => ?_)
  rotate_left
  · have h : ¬ op1 = op2 := eq_f h rfl rfl
    have hn1 : ¬ (op1 = op2 ∧ (op1 = 4 ∨ op1 = 3) ∧ id1 = id2) := fun e => h e.1
    cbv
    ((try cbv) <;> (repeat ((with_reducible refine EW.of ?_); cbv)))
    refine bsplit (fun h3 => ?_) (fun h3 => ?_)
    rotate_left
    · have h3 : ¬ op1 = 1 := eq_f h3 rfl rfl
      have hn2 : ¬ (op1 = 1 ∧ op2 = 2 ∧ i1 = id2) := fun e => h3 e.1
      cbv
      ((try cbv) <;> (repeat ((with_reducible refine EW.of ?_); cbv)))
      refine bsplit (fun h5 => ?_) (fun h5 => ?_)
      rotate_left
      · have h5 : ¬ op1 = 1 := eq_f h5 rfl rfl
        have hq4 := q4 hn1 hn2 (fun e => h5 e.1)
        obtain rfl : lo = [] := hlo.trans (by rw [hq4]; exact F.l.nil)
        obtain rfl : os = false := hos.trans (by rw [hq4]; rfl)
        ((try cbv) <;> (repeat ((with_reducible refine EW.of ?_); cbv)))
      have h5 : op1 = 1 := eq_t h5 rfl rfl
      ((try cbv) <;> (repeat ((with_reducible refine EW.of ?_); cbv)))
      refine bsplit (fun h6 => ?_) (fun h6 => ?_)
      rotate_left
      · have h6 : ¬ op2 = 4 := eq_f h6 rfl rfl
        have hq4 := q4 hn1 hn2 (fun e => h6 e.2)
        obtain rfl : lo = [] := hlo.trans (by rw [hq4]; exact F.l.nil)
        obtain rfl : os = false := hos.trans (by rw [hq4]; rfl)
        ((try cbv) <;> (repeat ((with_reducible refine EW.of ?_); cbv)))
      have h6 : op2 = 4 := eq_t h6 rfl rfl
      have hq3 := q3 hn1 hn2 ⟨h5, h6⟩
      ((try cbv) <;> (repeat ((with_reducible refine EW.of ?_); cbv)))
      (refine ⟨Ent.of (hP ▸ Try.func27) rfl, ?_⟩; refine TC.pureE hw ?_; cbv; (repeat (first | exact trivial | refine And.intro (Emb.Pur _ _) ?_ | refine And.intro rfl ?_ | refine And.intro (Pur.mk rfl) ?_ | refine And.intro (Pur.mk (by assumption)) ?_)); ((try cbv) <;> (repeat ((with_reducible refine EW.of ?_); cbv))))
      cases bb with
      | true =>
        replace hq3 : o = some [⟨op1, id1, par1, pl1, tx1, y⟩] := hq3
        obtain rfl : lo = ly := hlo.trans (by rw [hq3, hly]; rfl)
        obtain rfl : os = true := hos.trans (by rw [hq3]; rfl)
        ((try cbv) <;> (repeat ((with_reducible refine EW.of ?_); cbv)))
        (refine ⟨Ent.of (hP ▸ Try.func26) rfl, ?_⟩; refine TC.pureE hca ?_; cbv; (repeat (first | exact trivial | refine And.intro (Emb.Pur _ _) ?_ | refine And.intro rfl ?_ | refine And.intro (Pur.mk rfl) ?_ | refine And.intro (Pur.mk (by assumption)) ?_)); ((try cbv) <;> (repeat ((with_reducible refine EW.of ?_); cbv))))
        exact ⟨hly2.symm, ply, trivial⟩
      | false =>
        have hq4 : o = none := hq3
        obtain rfl : lo = [] := hlo.trans (by rw [hq4]; exact F.l.nil)
        obtain rfl : os = false := hos.trans (by rw [hq4]; rfl)
        ((try cbv) <;> (repeat ((with_reducible refine EW.of ?_); cbv)))
    have h3 : op1 = 1 := eq_t h3 rfl rfl
    ((try cbv) <;> (repeat ((with_reducible refine EW.of ?_); cbv)))
    refine bsplit (fun h4 => ?_) (fun h4 => ?_)
    rotate_left
    · have h4 : ¬ op2 = 2 := eq_f h4 rfl rfl
      have hn2 : ¬ (op1 = 1 ∧ op2 = 2 ∧ i1 = id2) := fun e => h4 e.2.1
      cbv
      ((try cbv) <;> (repeat ((with_reducible refine EW.of ?_); cbv)))
      refine bsplit (fun h5 => ?_) (fun h5 => ?_)
      rotate_left
      · have h5 : ¬ op1 = 1 := eq_f h5 rfl rfl
        have hq4 := q4 hn1 hn2 (fun e => h5 e.1)
        obtain rfl : lo = [] := hlo.trans (by rw [hq4]; exact F.l.nil)
        obtain rfl : os = false := hos.trans (by rw [hq4]; rfl)
        ((try cbv) <;> (repeat ((with_reducible refine EW.of ?_); cbv)))
      have h5 : op1 = 1 := eq_t h5 rfl rfl
      ((try cbv) <;> (repeat ((with_reducible refine EW.of ?_); cbv)))
      refine bsplit (fun h6 => ?_) (fun h6 => ?_)
      rotate_left
      · have h6 : ¬ op2 = 4 := eq_f h6 rfl rfl
        have hq4 := q4 hn1 hn2 (fun e => h6 e.2)
        obtain rfl : lo = [] := hlo.trans (by rw [hq4]; exact F.l.nil)
        obtain rfl : os = false := hos.trans (by rw [hq4]; rfl)
        ((try cbv) <;> (repeat ((with_reducible refine EW.of ?_); cbv)))
      have h6 : op2 = 4 := eq_t h6 rfl rfl
      have hq3 := q3 hn1 hn2 ⟨h5, h6⟩
      ((try cbv) <;> (repeat ((with_reducible refine EW.of ?_); cbv)))
      (refine ⟨Ent.of (hP ▸ Try.func27) rfl, ?_⟩; refine TC.pureE hw ?_; cbv; (repeat (first | exact trivial | refine And.intro (Emb.Pur _ _) ?_ | refine And.intro rfl ?_ | refine And.intro (Pur.mk rfl) ?_ | refine And.intro (Pur.mk (by assumption)) ?_)); ((try cbv) <;> (repeat ((with_reducible refine EW.of ?_); cbv))))
      cases bb with
      | true =>
        replace hq3 : o = some [⟨op1, id1, par1, pl1, tx1, y⟩] := hq3
        obtain rfl : lo = ly := hlo.trans (by rw [hq3, hly]; rfl)
        obtain rfl : os = true := hos.trans (by rw [hq3]; rfl)
        ((try cbv) <;> (repeat ((with_reducible refine EW.of ?_); cbv)))
        (refine ⟨Ent.of (hP ▸ Try.func26) rfl, ?_⟩; refine TC.pureE hca ?_; cbv; (repeat (first | exact trivial | refine And.intro (Emb.Pur _ _) ?_ | refine And.intro rfl ?_ | refine And.intro (Pur.mk rfl) ?_ | refine And.intro (Pur.mk (by assumption)) ?_)); ((try cbv) <;> (repeat ((with_reducible refine EW.of ?_); cbv))))
        exact ⟨hly2.symm, ply, trivial⟩
      | false =>
        have hq4 : o = none := hq3
        obtain rfl : lo = [] := hlo.trans (by rw [hq4]; exact F.l.nil)
        obtain rfl : os = false := hos.trans (by rw [hq4]; rfl)
        ((try cbv) <;> (repeat ((with_reducible refine EW.of ?_); cbv)))
    have h4 : op2 = 2 := eq_t h4 rfl rfl
    ((try cbv) <;> (repeat ((with_reducible refine EW.of ?_); cbv)))
    refine bsplit (fun h5 => ?_) (fun h5 => ?_)
    rotate_left
    · have h5 : ¬ i1 = id2 := eq_f h5 rfl rfl
      have hn2 : ¬ (op1 = 1 ∧ op2 = 2 ∧ i1 = id2) := fun e => h5 e.2.2
      cbv
      ((try cbv) <;> (repeat ((with_reducible refine EW.of ?_); cbv)))
      refine bsplit (fun h5 => ?_) (fun h5 => ?_)
      rotate_left
      · have h5 : ¬ op1 = 1 := eq_f h5 rfl rfl
        have hq4 := q4 hn1 hn2 (fun e => h5 e.1)
        obtain rfl : lo = [] := hlo.trans (by rw [hq4]; exact F.l.nil)
        obtain rfl : os = false := hos.trans (by rw [hq4]; rfl)
        ((try cbv) <;> (repeat ((with_reducible refine EW.of ?_); cbv)))
      have h5 : op1 = 1 := eq_t h5 rfl rfl
      ((try cbv) <;> (repeat ((with_reducible refine EW.of ?_); cbv)))
      refine bsplit (fun h6 => ?_) (fun h6 => ?_)
      rotate_left
      · have h6 : ¬ op2 = 4 := eq_f h6 rfl rfl
        have hq4 := q4 hn1 hn2 (fun e => h6 e.2)
        obtain rfl : lo = [] := hlo.trans (by rw [hq4]; exact F.l.nil)
        obtain rfl : os = false := hos.trans (by rw [hq4]; rfl)
        ((try cbv) <;> (repeat ((with_reducible refine EW.of ?_); cbv)))
      have h6 : op2 = 4 := eq_t h6 rfl rfl
      have hq3 := q3 hn1 hn2 ⟨h5, h6⟩
      ((try cbv) <;> (repeat ((with_reducible refine EW.of ?_); cbv)))
      (refine ⟨Ent.of (hP ▸ Try.func27) rfl, ?_⟩; refine TC.pureE hw ?_; cbv; (repeat (first | exact trivial | refine And.intro (Emb.Pur _ _) ?_ | refine And.intro rfl ?_ | refine And.intro (Pur.mk rfl) ?_ | refine And.intro (Pur.mk (by assumption)) ?_)); ((try cbv) <;> (repeat ((with_reducible refine EW.of ?_); cbv))))
      cases bb with
      | true =>
        replace hq3 : o = some [⟨op1, id1, par1, pl1, tx1, y⟩] := hq3
        obtain rfl : lo = ly := hlo.trans (by rw [hq3, hly]; rfl)
        obtain rfl : os = true := hos.trans (by rw [hq3]; rfl)
        ((try cbv) <;> (repeat ((with_reducible refine EW.of ?_); cbv)))
        (refine ⟨Ent.of (hP ▸ Try.func26) rfl, ?_⟩; refine TC.pureE hca ?_; cbv; (repeat (first | exact trivial | refine And.intro (Emb.Pur _ _) ?_ | refine And.intro rfl ?_ | refine And.intro (Pur.mk rfl) ?_ | refine And.intro (Pur.mk (by assumption)) ?_)); ((try cbv) <;> (repeat ((with_reducible refine EW.of ?_); cbv))))
        exact ⟨hly2.symm, ply, trivial⟩
      | false =>
        have hq4 : o = none := hq3
        obtain rfl : lo = [] := hlo.trans (by rw [hq4]; exact F.l.nil)
        obtain rfl : os = false := hos.trans (by rw [hq4]; rfl)
        ((try cbv) <;> (repeat ((with_reducible refine EW.of ?_); cbv)))
    have h5 : i1 = id2 := eq_t h5 rfl rfl
    have hq2 := q2 hn1 ⟨h3, h4, h5⟩
    obtain rfl : lo = [] := hlo.trans (by rw [hq2]; exact F.l.nil)
    obtain rfl : os = true := hos.trans (by rw [hq2]; rfl)
    ((try cbv) <;> (repeat ((with_reducible refine EW.of ?_); cbv)))
  have h : op1 = op2 := eq_t h rfl rfl
  ((try cbv) <;> (repeat ((with_reducible refine EW.of ?_); cbv)))
  refine bsplit (fun h1 => ?_) (fun h1 => ?_)
  · have ho1 : op1 = 4 ∨ op1 = 3 := .inl (eq_t h1 rfl rfl)
    ((try cbv) <;> (repeat ((with_reducible refine EW.of ?_); cbv)))
    refine bsplit (fun h2 => ?_) (fun h2 => ?_)
    · have h2 : id1 = id2 := eq_t h2 rfl rfl
      have hq1 := q1 ⟨h, ho1, h2⟩
      obtain rfl : lo = lb := hlo.trans (by rw [hq1, hlb]; rfl)
      obtain rfl : os = true := hos.trans (by rw [hq1]; rfl)
      ((try cbv) <;> (repeat ((with_reducible refine EW.of ?_); cbv)))
      (refine ⟨Ent.of (hP ▸ Try.func26) rfl, ?_⟩; refine TC.pureE hcb ?_; cbv; (repeat (first | exact trivial | refine And.intro (Emb.Pur _ _) ?_ | refine And.intro rfl ?_ | refine And.intro (Pur.mk rfl) ?_ | refine And.intro (Pur.mk (by assumption)) ?_)); ((try cbv) <;> (repeat ((with_reducible refine EW.of ?_); cbv))))
      exact ⟨hlb2.symm, plb, trivial⟩
    · have h2 : ¬ id1 = id2 := eq_f h2 rfl rfl
      have hn1 : ¬ (op1 = op2 ∧ (op1 = 4 ∨ op1 = 3) ∧ id1 = id2) := fun e => h2 e.2.2
      cbv
      ((try cbv) <;> (repeat ((with_reducible refine EW.of ?_); cbv)))
      refine bsplit (fun h3 => ?_) (fun h3 => ?_)
      rotate_left
      · have h3 : ¬ op1 = 1 := eq_f h3 rfl rfl
        have hn2 : ¬ (op1 = 1 ∧ op2 = 2 ∧ i1 = id2) := fun e => h3 e.1
        cbv
        ((try cbv) <;> (repeat ((with_reducible refine EW.of ?_); cbv)))
        refine bsplit (fun h5 => ?_) (fun h5 => ?_)
        rotate_left
        · have h5 : ¬ op1 = 1 := eq_f h5 rfl rfl
          have hq4 := q4 hn1 hn2 (fun e => h5 e.1)
          obtain rfl : lo = [] := hlo.trans (by rw [hq4]; exact F.l.nil)
          obtain rfl : os = false := hos.trans (by rw [hq4]; rfl)
          ((try cbv) <;> (repeat ((with_reducible refine EW.of ?_); cbv)))
        have h5 : op1 = 1 := eq_t h5 rfl rfl
        ((try cbv) <;> (repeat ((with_reducible refine EW.of ?_); cbv)))
        refine bsplit (fun h6 => ?_) (fun h6 => ?_)
        rotate_left
        · have h6 : ¬ op2 = 4 := eq_f h6 rfl rfl
          have hq4 := q4 hn1 hn2 (fun e => h6 e.2)
          obtain rfl : lo = [] := hlo.trans (by rw [hq4]; exact F.l.nil)
          obtain rfl : os = false := hos.trans (by rw [hq4]; rfl)
          ((try cbv) <;> (repeat ((with_reducible refine EW.of ?_); cbv)))
        have h6 : op2 = 4 := eq_t h6 rfl rfl
        have hq3 := q3 hn1 hn2 ⟨h5, h6⟩
        ((try cbv) <;> (repeat ((with_reducible refine EW.of ?_); cbv)))
        (refine ⟨Ent.of (hP ▸ Try.func27) rfl, ?_⟩; refine TC.pureE hw ?_; cbv; (repeat (first | exact trivial | refine And.intro (Emb.Pur _ _) ?_ | refine And.intro rfl ?_ | refine And.intro (Pur.mk rfl) ?_ | refine And.intro (Pur.mk (by assumption)) ?_)); ((try cbv) <;> (repeat ((with_reducible refine EW.of ?_); cbv))))
        cases bb with
        | true =>
          replace hq3 : o = some [⟨op1, id1, par1, pl1, tx1, y⟩] := hq3
          obtain rfl : lo = ly := hlo.trans (by rw [hq3, hly]; rfl)
          obtain rfl : os = true := hos.trans (by rw [hq3]; rfl)
          ((try cbv) <;> (repeat ((with_reducible refine EW.of ?_); cbv)))
          (refine ⟨Ent.of (hP ▸ Try.func26) rfl, ?_⟩; refine TC.pureE hca ?_; cbv; (repeat (first | exact trivial | refine And.intro (Emb.Pur _ _) ?_ | refine And.intro rfl ?_ | refine And.intro (Pur.mk rfl) ?_ | refine And.intro (Pur.mk (by assumption)) ?_)); ((try cbv) <;> (repeat ((with_reducible refine EW.of ?_); cbv))))
          exact ⟨hly2.symm, ply, trivial⟩
        | false =>
          have hq4 : o = none := hq3
          obtain rfl : lo = [] := hlo.trans (by rw [hq4]; exact F.l.nil)
          obtain rfl : os = false := hos.trans (by rw [hq4]; rfl)
          ((try cbv) <;> (repeat ((with_reducible refine EW.of ?_); cbv)))
      have h3 : op1 = 1 := eq_t h3 rfl rfl
      ((try cbv) <;> (repeat ((with_reducible refine EW.of ?_); cbv)))
      refine bsplit (fun h4 => ?_) (fun h4 => ?_)
      rotate_left
      · have h4 : ¬ op2 = 2 := eq_f h4 rfl rfl
        have hn2 : ¬ (op1 = 1 ∧ op2 = 2 ∧ i1 = id2) := fun e => h4 e.2.1
        cbv
        ((try cbv) <;> (repeat ((with_reducible refine EW.of ?_); cbv)))
        refine bsplit (fun h5 => ?_) (fun h5 => ?_)
        rotate_left
        · have h5 : ¬ op1 = 1 := eq_f h5 rfl rfl
          have hq4 := q4 hn1 hn2 (fun e => h5 e.1)
          obtain rfl : lo = [] := hlo.trans (by rw [hq4]; exact F.l.nil)
          obtain rfl : os = false := hos.trans (by rw [hq4]; rfl)
          ((try cbv) <;> (repeat ((with_reducible refine EW.of ?_); cbv)))
        have h5 : op1 = 1 := eq_t h5 rfl rfl
        ((try cbv) <;> (repeat ((with_reducible refine EW.of ?_); cbv)))
        refine bsplit (fun h6 => ?_) (fun h6 => ?_)
        rotate_left
        · have h6 : ¬ op2 = 4 := eq_f h6 rfl rfl
          have hq4 := q4 hn1 hn2 (fun e => h6 e.2)
          obtain rfl : lo = [] := hlo.trans (by rw [hq4]; exact F.l.nil)
          obtain rfl : os = false := hos.trans (by rw [hq4]; rfl)
          ((try cbv) <;> (repeat ((with_reducible refine EW.of ?_); cbv)))
        have h6 : op2 = 4 := eq_t h6 rfl rfl
        have hq3 := q3 hn1 hn2 ⟨h5, h6⟩
        ((try cbv) <;> (repeat ((with_reducible refine EW.of ?_); cbv)))
        (refine ⟨Ent.of (hP ▸ Try.func27) rfl, ?_⟩; refine TC.pureE hw ?_; cbv; (repeat (first | exact trivial | refine And.intro (Emb.Pur _ _) ?_ | refine And.intro rfl ?_ | refine And.intro (Pur.mk rfl) ?_ | refine And.intro (Pur.mk (by assumption)) ?_)); ((try cbv) <;> (repeat ((with_reducible refine EW.of ?_); cbv))))
        cases bb with
        | true =>
          replace hq3 : o = some [⟨op1, id1, par1, pl1, tx1, y⟩] := hq3
          obtain rfl : lo = ly := hlo.trans (by rw [hq3, hly]; rfl)
          obtain rfl : os = true := hos.trans (by rw [hq3]; rfl)
          ((try cbv) <;> (repeat ((with_reducible refine EW.of ?_); cbv)))
          (refine ⟨Ent.of (hP ▸ Try.func26) rfl, ?_⟩; refine TC.pureE hca ?_; cbv; (repeat (first | exact trivial | refine And.intro (Emb.Pur _ _) ?_ | refine And.intro rfl ?_ | refine And.intro (Pur.mk rfl) ?_ | refine And.intro (Pur.mk (by assumption)) ?_)); ((try cbv) <;> (repeat ((with_reducible refine EW.of ?_); cbv))))
          exact ⟨hly2.symm, ply, trivial⟩
        | false =>
          have hq4 : o = none := hq3
          obtain rfl : lo = [] := hlo.trans (by rw [hq4]; exact F.l.nil)
          obtain rfl : os = false := hos.trans (by rw [hq4]; rfl)
          ((try cbv) <;> (repeat ((with_reducible refine EW.of ?_); cbv)))
      have h4 : op2 = 2 := eq_t h4 rfl rfl
      ((try cbv) <;> (repeat ((with_reducible refine EW.of ?_); cbv)))
      refine bsplit (fun h5 => ?_) (fun h5 => ?_)
      rotate_left
      · have h5 : ¬ i1 = id2 := eq_f h5 rfl rfl
        have hn2 : ¬ (op1 = 1 ∧ op2 = 2 ∧ i1 = id2) := fun e => h5 e.2.2
        cbv
        ((try cbv) <;> (repeat ((with_reducible refine EW.of ?_); cbv)))
        refine bsplit (fun h5 => ?_) (fun h5 => ?_)
        rotate_left
        · have h5 : ¬ op1 = 1 := eq_f h5 rfl rfl
          have hq4 := q4 hn1 hn2 (fun e => h5 e.1)
          obtain rfl : lo = [] := hlo.trans (by rw [hq4]; exact F.l.nil)
          obtain rfl : os = false := hos.trans (by rw [hq4]; rfl)
          ((try cbv) <;> (repeat ((with_reducible refine EW.of ?_); cbv)))
        have h5 : op1 = 1 := eq_t h5 rfl rfl
        ((try cbv) <;> (repeat ((with_reducible refine EW.of ?_); cbv)))
        refine bsplit (fun h6 => ?_) (fun h6 => ?_)
        rotate_left
        · have h6 : ¬ op2 = 4 := eq_f h6 rfl rfl
          have hq4 := q4 hn1 hn2 (fun e => h6 e.2)
          obtain rfl : lo = [] := hlo.trans (by rw [hq4]; exact F.l.nil)
          obtain rfl : os = false := hos.trans (by rw [hq4]; rfl)
          ((try cbv) <;> (repeat ((with_reducible refine EW.of ?_); cbv)))
        have h6 : op2 = 4 := eq_t h6 rfl rfl
        have hq3 := q3 hn1 hn2 ⟨h5, h6⟩
        ((try cbv) <;> (repeat ((with_reducible refine EW.of ?_); cbv)))
        (refine ⟨Ent.of (hP ▸ Try.func27) rfl, ?_⟩; refine TC.pureE hw ?_; cbv; (repeat (first | exact trivial | refine And.intro (Emb.Pur _ _) ?_ | refine And.intro rfl ?_ | refine And.intro (Pur.mk rfl) ?_ | refine And.intro (Pur.mk (by assumption)) ?_)); ((try cbv) <;> (repeat ((with_reducible refine EW.of ?_); cbv))))
        cases bb with
        | true =>
          replace hq3 : o = some [⟨op1, id1, par1, pl1, tx1, y⟩] := hq3
          obtain rfl : lo = ly := hlo.trans (by rw [hq3, hly]; rfl)
          obtain rfl : os = true := hos.trans (by rw [hq3]; rfl)
          ((try cbv) <;> (repeat ((with_reducible refine EW.of ?_); cbv)))
          (refine ⟨Ent.of (hP ▸ Try.func26) rfl, ?_⟩; refine TC.pureE hca ?_; cbv; (repeat (first | exact trivial | refine And.intro (Emb.Pur _ _) ?_ | refine And.intro rfl ?_ | refine And.intro (Pur.mk rfl) ?_ | refine And.intro (Pur.mk (by assumption)) ?_)); ((try cbv) <;> (repeat ((with_reducible refine EW.of ?_); cbv))))
          exact ⟨hly2.symm, ply, trivial⟩
        | false =>
          have hq4 : o = none := hq3
          obtain rfl : lo = [] := hlo.trans (by rw [hq4]; exact F.l.nil)
          obtain rfl : os = false := hos.trans (by rw [hq4]; rfl)
          ((try cbv) <;> (repeat ((with_reducible refine EW.of ?_); cbv)))
      have h5 : i1 = id2 := eq_t h5 rfl rfl
      have hq2 := q2 hn1 ⟨h3, h4, h5⟩
      obtain rfl : lo = [] := hlo.trans (by rw [hq2]; exact F.l.nil)
      obtain rfl : os = true := hos.trans (by rw [hq2]; rfl)
      ((try cbv) <;> (repeat ((with_reducible refine EW.of ?_); cbv)))
  have hn4 : ¬ op1 = 4 := eq_f h1 rfl rfl
  ((try cbv) <;> (repeat ((with_reducible refine EW.of ?_); cbv)))
  refine bsplit (fun h1 => ?_) (fun h1 => ?_)
  · have ho1 : op1 = 4 ∨ op1 = 3 := .inr (eq_t h1 rfl rfl)
    ((try cbv) <;> (repeat ((with_reducible refine EW.of ?_); cbv)))
    refine bsplit (fun h2 => ?_) (fun h2 => ?_)
    · have h2 : id1 = id2 := eq_t h2 rfl rfl
      have hq1 := q1 ⟨h, ho1, h2⟩
      obtain rfl : lo = lb := hlo.trans (by rw [hq1, hlb]; rfl)
      obtain rfl : os = true := hos.trans (by rw [hq1]; rfl)
      ((try cbv) <;> (repeat ((with_reducible refine EW.of ?_); cbv)))
      (refine ⟨Ent.of (hP ▸ Try.func26) rfl, ?_⟩; refine TC.pureE hcb ?_; cbv; (repeat (first | exact trivial | refine And.intro (Emb.Pur _ _) ?_ | refine And.intro rfl ?_ | refine And.intro (Pur.mk rfl) ?_ | refine And.intro (Pur.mk (by assumption)) ?_)); ((try cbv) <;> (repeat ((with_reducible refine EW.of ?_); cbv))))
      exact ⟨hlb2.symm, plb, trivial⟩
    · have h2 : ¬ id1 = id2 := eq_f h2 rfl rfl
      have hn1 : ¬ (op1 = op2 ∧ (op1 = 4 ∨ op1 = 3) ∧ id1 = id2) := fun e => h2 e.2.2
      cbv
      ((try cbv) <;> (repeat ((with_reducible refine EW.of ?_); cbv)))
      refine bsplit (fun h3 => ?_) (fun h3 => ?_)
      rotate_left
      · have h3 : ¬ op1 = 1 := eq_f h3 rfl rfl
        have hn2 : ¬ (op1 = 1 ∧ op2 = 2 ∧ i1 = id2) := fun e => h3 e.1
        cbv
        ((try cbv) <;> (repeat ((with_reducible refine EW.of ?_); cbv)))
        refine bsplit (fun h5 => ?_) (fun h5 => ?_)
        rotate_left
        · have h5 : ¬ op1 = 1 := eq_f h5 rfl rfl
          have hq4 := q4 hn1 hn2 (fun e => h5 e.1)
          obtain rfl : lo = [] := hlo.trans (by rw [hq4]; exact F.l.nil)
          obtain rfl : os = false := hos.trans (by rw [hq4]; rfl)
          ((try cbv) <;> (repeat ((with_reducible refine EW.of ?_); cbv)))
        have h5 : op1 = 1 := eq_t h5 rfl rfl
        ((try cbv) <;> (repeat ((with_reducible refine EW.of ?_); cbv)))
        refine bsplit (fun h6 => ?_) (fun h6 => ?_)
        rotate_left
        · have h6 : ¬ op2 = 4 := eq_f h6 rfl rfl
          have hq4 := q4 hn1 hn2 (fun e => h6 e.2)
          obtain rfl : lo = [] := hlo.trans (by rw [hq4]; exact F.l.nil)
          obtain rfl : os = false := hos.trans (by rw [hq4]; rfl)
          ((try cbv) <;> (repeat ((with_reducible refine EW.of ?_); cbv)))
        have h6 : op2 = 4 := eq_t h6 rfl rfl
        have hq3 := q3 hn1 hn2 ⟨h5, h6⟩
        ((try cbv) <;> (repeat ((with_reducible refine EW.of ?_); cbv)))
        (refine ⟨Ent.of (hP ▸ Try.func27) rfl, ?_⟩; refine TC.pureE hw ?_; cbv; (repeat (first | exact trivial | refine And.intro (Emb.Pur _ _) ?_ | refine And.intro rfl ?_ | refine And.intro (Pur.mk rfl) ?_ | refine And.intro (Pur.mk (by assumption)) ?_)); ((try cbv) <;> (repeat ((with_reducible refine EW.of ?_); cbv))))
        cases bb with
        | true =>
          replace hq3 : o = some [⟨op1, id1, par1, pl1, tx1, y⟩] := hq3
          obtain rfl : lo = ly := hlo.trans (by rw [hq3, hly]; rfl)
          obtain rfl : os = true := hos.trans (by rw [hq3]; rfl)
          ((try cbv) <;> (repeat ((with_reducible refine EW.of ?_); cbv)))
          (refine ⟨Ent.of (hP ▸ Try.func26) rfl, ?_⟩; refine TC.pureE hca ?_; cbv; (repeat (first | exact trivial | refine And.intro (Emb.Pur _ _) ?_ | refine And.intro rfl ?_ | refine And.intro (Pur.mk rfl) ?_ | refine And.intro (Pur.mk (by assumption)) ?_)); ((try cbv) <;> (repeat ((with_reducible refine EW.of ?_); cbv))))
          exact ⟨hly2.symm, ply, trivial⟩
        | false =>
          have hq4 : o = none := hq3
          obtain rfl : lo = [] := hlo.trans (by rw [hq4]; exact F.l.nil)
          obtain rfl : os = false := hos.trans (by rw [hq4]; rfl)
          ((try cbv) <;> (repeat ((with_reducible refine EW.of ?_); cbv)))
      have h3 : op1 = 1 := eq_t h3 rfl rfl
      ((try cbv) <;> (repeat ((with_reducible refine EW.of ?_); cbv)))
      refine bsplit (fun h4 => ?_) (fun h4 => ?_)
      rotate_left
      · have h4 : ¬ op2 = 2 := eq_f h4 rfl rfl
        have hn2 : ¬ (op1 = 1 ∧ op2 = 2 ∧ i1 = id2) := fun e => h4 e.2.1
        cbv
        ((try cbv) <;> (repeat ((with_reducible refine EW.of ?_); cbv)))
        refine bsplit (fun h5 => ?_) (fun h5 => ?_)
        rotate_left
        · have h5 : ¬ op1 = 1 := eq_f h5 rfl rfl
          have hq4 := q4 hn1 hn2 (fun e => h5 e.1)
          obtain rfl : lo = [] := hlo.trans (by rw [hq4]; exact F.l.nil)
          obtain rfl : os = false := hos.trans (by rw [hq4]; rfl)
          ((try cbv) <;> (repeat ((with_reducible refine EW.of ?_); cbv)))
        have h5 : op1 = 1 := eq_t h5 rfl rfl
        ((try cbv) <;> (repeat ((with_reducible refine EW.of ?_); cbv)))
        refine bsplit (fun h6 => ?_) (fun h6 => ?_)
        rotate_left
        · have h6 : ¬ op2 = 4 := eq_f h6 rfl rfl
          have hq4 := q4 hn1 hn2 (fun e => h6 e.2)
          obtain rfl : lo = [] := hlo.trans (by rw [hq4]; exact F.l.nil)
          obtain rfl : os = false := hos.trans (by rw [hq4]; rfl)
          ((try cbv) <;> (repeat ((with_reducible refine EW.of ?_); cbv)))
        have h6 : op2 = 4 := eq_t h6 rfl rfl
        have hq3 := q3 hn1 hn2 ⟨h5, h6⟩
        ((try cbv) <;> (repeat ((with_reducible refine EW.of ?_); cbv)))
        (refine ⟨Ent.of (hP ▸ Try.func27) rfl, ?_⟩; refine TC.pureE hw ?_; cbv; (repeat (first | exact trivial | refine And.intro (Emb.Pur _ _) ?_ | refine And.intro rfl ?_ | refine And.intro (Pur.mk rfl) ?_ | refine And.intro (Pur.mk (by assumption)) ?_)); ((try cbv) <;> (repeat ((with_reducible refine EW.of ?_); cbv))))
        cases bb with
        | true =>
          replace hq3 : o = some [⟨op1, id1, par1, pl1, tx1, y⟩] := hq3
          obtain rfl : lo = ly := hlo.trans (by rw [hq3, hly]; rfl)
          obtain rfl : os = true := hos.trans (by rw [hq3]; rfl)
          ((try cbv) <;> (repeat ((with_reducible refine EW.of ?_); cbv)))
          (refine ⟨Ent.of (hP ▸ Try.func26) rfl, ?_⟩; refine TC.pureE hca ?_; cbv; (repeat (first | exact trivial | refine And.intro (Emb.Pur _ _) ?_ | refine And.intro rfl ?_ | refine And.intro (Pur.mk rfl) ?_ | refine And.intro (Pur.mk (by assumption)) ?_)); ((try cbv) <;> (repeat ((with_reducible refine EW.of ?_); cbv))))
          exact ⟨hly2.symm, ply, trivial⟩
        | false =>
          have hq4 : o = none := hq3
          obtain rfl : lo = [] := hlo.trans (by rw [hq4]; exact F.l.nil)
          obtain rfl : os = false := hos.trans (by rw [hq4]; rfl)
          ((try cbv) <;> (repeat ((with_reducible refine EW.of ?_); cbv)))
      have h4 : op2 = 2 := eq_t h4 rfl rfl
      ((try cbv) <;> (repeat ((with_reducible refine EW.of ?_); cbv)))
      refine bsplit (fun h5 => ?_) (fun h5 => ?_)
      rotate_left
      · have h5 : ¬ i1 = id2 := eq_f h5 rfl rfl
        have hn2 : ¬ (op1 = 1 ∧ op2 = 2 ∧ i1 = id2) := fun e => h5 e.2.2
        cbv
        ((try cbv) <;> (repeat ((with_reducible refine EW.of ?_); cbv)))
        refine bsplit (fun h5 => ?_) (fun h5 => ?_)
        rotate_left
        · have h5 : ¬ op1 = 1 := eq_f h5 rfl rfl
          have hq4 := q4 hn1 hn2 (fun e => h5 e.1)
          obtain rfl : lo = [] := hlo.trans (by rw [hq4]; exact F.l.nil)
          obtain rfl : os = false := hos.trans (by rw [hq4]; rfl)
          ((try cbv) <;> (repeat ((with_reducible refine EW.of ?_); cbv)))
        have h5 : op1 = 1 := eq_t h5 rfl rfl
        ((try cbv) <;> (repeat ((with_reducible refine EW.of ?_); cbv)))
        refine bsplit (fun h6 => ?_) (fun h6 => ?_)
        rotate_left
        · have h6 : ¬ op2 = 4 := eq_f h6 rfl rfl
          have hq4 := q4 hn1 hn2 (fun e => h6 e.2)
          obtain rfl : lo = [] := hlo.trans (by rw [hq4]; exact F.l.nil)
          obtain rfl : os = false := hos.trans (by rw [hq4]; rfl)
          ((try cbv) <;> (repeat ((with_reducible refine EW.of ?_); cbv)))
        have h6 : op2 = 4 := eq_t h6 rfl rfl
        have hq3 := q3 hn1 hn2 ⟨h5, h6⟩
        ((try cbv) <;> (repeat ((with_reducible refine EW.of ?_); cbv)))
        (refine ⟨Ent.of (hP ▸ Try.func27) rfl, ?_⟩; refine TC.pureE hw ?_; cbv; (repeat (first | exact trivial | refine And.intro (Emb.Pur _ _) ?_ | refine And.intro rfl ?_ | refine And.intro (Pur.mk rfl) ?_ | refine And.intro (Pur.mk (by assumption)) ?_)); ((try cbv) <;> (repeat ((with_reducible refine EW.of ?_); cbv))))
        cases bb with
        | true =>
          replace hq3 : o = some [⟨op1, id1, par1, pl1, tx1, y⟩] := hq3
          obtain rfl : lo = ly := hlo.trans (by rw [hq3, hly]; rfl)
          obtain rfl : os = true := hos.trans (by rw [hq3]; rfl)
          ((try cbv) <;> (repeat ((with_reducible refine EW.of ?_); cbv)))
          (refine ⟨Ent.of (hP ▸ Try.func26) rfl, ?_⟩; refine TC.pureE hca ?_; cbv; (repeat (first | exact trivial | refine And.intro (Emb.Pur _ _) ?_ | refine And.intro rfl ?_ | refine And.intro (Pur.mk rfl) ?_ | refine And.intro (Pur.mk (by assumption)) ?_)); ((try cbv) <;> (repeat ((with_reducible refine EW.of ?_); cbv))))
          exact ⟨hly2.symm, ply, trivial⟩
        | false =>
          have hq4 : o = none := hq3
          obtain rfl : lo = [] := hlo.trans (by rw [hq4]; exact F.l.nil)
          obtain rfl : os = false := hos.trans (by rw [hq4]; rfl)
          ((try cbv) <;> (repeat ((with_reducible refine EW.of ?_); cbv)))
      have h5 : i1 = id2 := eq_t h5 rfl rfl
      have hq2 := q2 hn1 ⟨h3, h4, h5⟩
      obtain rfl : lo = [] := hlo.trans (by rw [hq2]; exact F.l.nil)
      obtain rfl : os = true := hos.trans (by rw [hq2]; rfl)
      ((try cbv) <;> (repeat ((with_reducible refine EW.of ?_); cbv)))
  have hn3 : ¬ op1 = 3 := eq_f h1 rfl rfl
  have hn1 : ¬ (op1 = op2 ∧ (op1 = 4 ∨ op1 = 3) ∧ id1 = id2) := fun e => e.2.1.elim hn4 hn3
  cbv
  ((try cbv) <;> (repeat ((with_reducible refine EW.of ?_); cbv)))
  refine bsplit (fun h3 => ?_) (fun h3 => ?_)
  rotate_left
  · have h3 : ¬ op1 = 1 := eq_f h3 rfl rfl
    have hn2 : ¬ (op1 = 1 ∧ op2 = 2 ∧ i1 = id2) := fun e => h3 e.1
    cbv
    ((try cbv) <;> (repeat ((with_reducible refine EW.of ?_); cbv)))
    refine bsplit (fun h5 => ?_) (fun h5 => ?_)
    rotate_left
    · have h5 : ¬ op1 = 1 := eq_f h5 rfl rfl
      have hq4 := q4 hn1 hn2 (fun e => h5 e.1)
      obtain rfl : lo = [] := hlo.trans (by rw [hq4]; exact F.l.nil)
      obtain rfl : os = false := hos.trans (by rw [hq4]; rfl)
      ((try cbv) <;> (repeat ((with_reducible refine EW.of ?_); cbv)))
    have h5 : op1 = 1 := eq_t h5 rfl rfl
    ((try cbv) <;> (repeat ((with_reducible refine EW.of ?_); cbv)))
    refine bsplit (fun h6 => ?_) (fun h6 => ?_)
    rotate_left
    · have h6 : ¬ op2 = 4 := eq_f h6 rfl rfl
      have hq4 := q4 hn1 hn2 (fun e => h6 e.2)
      obtain rfl : lo = [] := hlo.trans (by rw [hq4]; exact F.l.nil)
      obtain rfl : os = false := hos.trans (by rw [hq4]; rfl)
      ((try cbv) <;> (repeat ((with_reducible refine EW.of ?_); cbv)))
    have h6 : op2 = 4 := eq_t h6 rfl rfl
    have hq3 := q3 hn1 hn2 ⟨h5, h6⟩
    ((try cbv) <;> (repeat ((with_reducible refine EW.of ?_); cbv)))
    (refine ⟨Ent.of (hP ▸ Try.func27) rfl, ?_⟩; refine TC.pureE hw ?_; cbv; (repeat (first | exact trivial | refine And.intro (Emb.Pur _ _) ?_ | refine And.intro rfl ?_ | refine And.intro (Pur.mk rfl) ?_ | refine And.intro (Pur.mk (by assumption)) ?_)); ((try cbv) <;> (repeat ((with_reducible refine EW.of ?_); cbv))))
    cases bb with
    | true =>
      replace hq3 : o = some [⟨op1, id1, par1, pl1, tx1, y⟩] := hq3
      obtain rfl : lo = ly := hlo.trans (by rw [hq3, hly]; rfl)
      obtain rfl : os = true := hos.trans (by rw [hq3]; rfl)
      ((try cbv) <;> (repeat ((with_reducible refine EW.of ?_); cbv)))
      (refine ⟨Ent.of (hP ▸ Try.func26) rfl, ?_⟩; refine TC.pureE hca ?_; cbv; (repeat (first | exact trivial | refine And.intro (Emb.Pur _ _) ?_ | refine And.intro rfl ?_ | refine And.intro (Pur.mk rfl) ?_ | refine And.intro (Pur.mk (by assumption)) ?_)); ((try cbv) <;> (repeat ((with_reducible refine EW.of ?_); cbv))))
      exact ⟨hly2.symm, ply, trivial⟩
    | false =>
      have hq4 : o = none := hq3
      obtain rfl : lo = [] := hlo.trans (by rw [hq4]; exact F.l.nil)
      obtain rfl : os = false := hos.trans (by rw [hq4]; rfl)
      ((try cbv) <;> (repeat ((with_reducible refine EW.of ?_); cbv)))
  have h3 : op1 = 1 := eq_t h3 rfl rfl
  ((try cbv) <;> (repeat ((with_reducible refine EW.of ?_); cbv)))
  refine bsplit (fun h4 => ?_) (fun h4 => ?_)
  rotate_left
  · have h4 : ¬ op2 = 2 := eq_f h4 rfl rfl
    have hn2 : ¬ (op1 = 1 ∧ op2 = 2 ∧ i1 = id2) := fun e => h4 e.2.1
    cbv
    ((try cbv) <;> (repeat ((with_reducible refine EW.of ?_); cbv)))
    refine bsplit (fun h5 => ?_) (fun h5 => ?_)
    rotate_left
    · have h5 : ¬ op1 = 1 := eq_f h5 rfl rfl
      have hq4 := q4 hn1 hn2 (fun e => h5 e.1)
      obtain rfl : lo = [] := hlo.trans (by rw [hq4]; exact F.l.nil)
      obtain rfl : os = false := hos.trans (by rw [hq4]; rfl)
      ((try cbv) <;> (repeat ((with_reducible refine EW.of ?_); cbv)))
    have h5 : op1 = 1 := eq_t h5 rfl rfl
    ((try cbv) <;> (repeat ((with_reducible refine EW.of ?_); cbv)))
    refine bsplit (fun h6 => ?_) (fun h6 => ?_)
    rotate_left
    · have h6 : ¬ op2 = 4 := eq_f h6 rfl rfl
      have hq4 := q4 hn1 hn2 (fun e => h6 e.2)
      obtain rfl : lo = [] := hlo.trans (by rw [hq4]; exact F.l.nil)
      obtain rfl : os = false := hos.trans (by rw [hq4]; rfl)
      ((try cbv) <;> (repeat ((with_reducible refine EW.of ?_); cbv)))
    have h6 : op2 = 4 := eq_t h6 rfl rfl
    have hq3 := q3 hn1 hn2 ⟨h5, h6⟩
    ((try cbv) <;> (repeat ((with_reducible refine EW.of ?_); cbv)))
    (refine ⟨Ent.of (hP ▸ Try.func27) rfl, ?_⟩; refine TC.pureE hw ?_; cbv; (repeat (first | exact trivial | refine And.intro (Emb.Pur _ _) ?_ | refine And.intro rfl ?_ | refine And.intro (Pur.mk rfl) ?_ | refine And.intro (Pur.mk (by assumption)) ?_)); ((try cbv) <;> (repeat ((with_reducible refine EW.of ?_); cbv))))
    cases bb with
    | true =>
      replace hq3 : o = some [⟨op1, id1, par1, pl1, tx1, y⟩] := hq3
      obtain rfl : lo = ly := hlo.trans (by rw [hq3, hly]; rfl)
      obtain rfl : os = true := hos.trans (by rw [hq3]; rfl)
      ((try cbv) <;> (repeat ((with_reducible refine EW.of ?_); cbv)))
      (refine ⟨Ent.of (hP ▸ Try.func26) rfl, ?_⟩; refine TC.pureE hca ?_; cbv; (repeat (first | exact trivial | refine And.intro (Emb.Pur _ _) ?_ | refine And.intro rfl ?_ | refine And.intro (Pur.mk rfl) ?_ | refine And.intro (Pur.mk (by assumption)) ?_)); ((try cbv) <;> (repeat ((with_reducible refine EW.of ?_); cbv))))
      exact ⟨hly2.symm, ply, trivial⟩
    | false =>
      have hq4 : o = none := hq3
      obtain rfl : lo = [] := hlo.trans (by rw [hq4]; exact F.l.nil)
      obtain rfl : os = false := hos.trans (by rw [hq4]; rfl)
      ((try cbv) <;> (repeat ((with_reducible refine EW.of ?_); cbv)))
  have h4 : op2 = 2 := eq_t h4 rfl rfl
  ((try cbv) <;> (repeat ((with_reducible refine EW.of ?_); cbv)))
  refine bsplit (fun h5 => ?_) (fun h5 => ?_)
  rotate_left
  · have h5 : ¬ i1 = id2 := eq_f h5 rfl rfl
    have hn2 : ¬ (op1 = 1 ∧ op2 = 2 ∧ i1 = id2) := fun e => h5 e.2.2
    cbv
    ((try cbv) <;> (repeat ((with_reducible refine EW.of ?_); cbv)))
    refine bsplit (fun h5 => ?_) (fun h5 => ?_)
    rotate_left
    · have h5 : ¬ op1 = 1 := eq_f h5 rfl rfl
      have hq4 := q4 hn1 hn2 (fun e => h5 e.1)
      obtain rfl : lo = [] := hlo.trans (by rw [hq4]; exact F.l.nil)
      obtain rfl : os = false := hos.trans (by rw [hq4]; rfl)
      ((try cbv) <;> (repeat ((with_reducible refine EW.of ?_); cbv)))
    have h5 : op1 = 1 := eq_t h5 rfl rfl
    ((try cbv) <;> (repeat ((with_reducible refine EW.of ?_); cbv)))
    refine bsplit (fun h6 => ?_) (fun h6 => ?_)
    rotate_left
    · have h6 : ¬ op2 = 4 := eq_f h6 rfl rfl
      have hq4 := q4 hn1 hn2 (fun e => h6 e.2)
      obtain rfl : lo = [] := hlo.trans (by rw [hq4]; exact F.l.nil)
      obtain rfl : os = false := hos.trans (by rw [hq4]; rfl)
      ((try cbv) <;> (repeat ((with_reducible refine EW.of ?_); cbv)))
    have h6 : op2 = 4 := eq_t h6 rfl rfl
    have hq3 := q3 hn1 hn2 ⟨h5, h6⟩
    ((try cbv) <;> (repeat ((with_reducible refine EW.of ?_); cbv)))
    (refine ⟨Ent.of (hP ▸ Try.func27) rfl, ?_⟩; refine TC.pureE hw ?_; cbv; (repeat (first | exact trivial | refine And.intro (Emb.Pur _ _) ?_ | refine And.intro rfl ?_ | refine And.intro (Pur.mk rfl) ?_ | refine And.intro (Pur.mk (by assumption)) ?_)); ((try cbv) <;> (repeat ((with_reducible refine EW.of ?_); cbv))))
    cases bb with
    | true =>
      replace hq3 : o = some [⟨op1, id1, par1, pl1, tx1, y⟩] := hq3
      obtain rfl : lo = ly := hlo.trans (by rw [hq3, hly]; rfl)
      obtain rfl : os = true := hos.trans (by rw [hq3]; rfl)
      ((try cbv) <;> (repeat ((with_reducible refine EW.of ?_); cbv)))
      (refine ⟨Ent.of (hP ▸ Try.func26) rfl, ?_⟩; refine TC.pureE hca ?_; cbv; (repeat (first | exact trivial | refine And.intro (Emb.Pur _ _) ?_ | refine And.intro rfl ?_ | refine And.intro (Pur.mk rfl) ?_ | refine And.intro (Pur.mk (by assumption)) ?_)); ((try cbv) <;> (repeat ((with_reducible refine EW.of ?_); cbv))))
      exact ⟨hly2.symm, ply, trivial⟩
    | false =>
      have hq4 : o = none := hq3
      obtain rfl : lo = [] := hlo.trans (by rw [hq4]; exact F.l.nil)
      obtain rfl : os = false := hos.trans (by rw [hq4]; rfl)
      ((try cbv) <;> (repeat ((with_reducible refine EW.of ?_); cbv)))
  have h5 : i1 = id2 := eq_t h5 rfl rfl
  have hq2 := q2 hn1 ⟨h3, h4, h5⟩
  obtain rfl : lo = [] := hlo.trans (by rw [hq2]; exact F.l.nil)
  obtain rfl : os = true := hos.trans (by rw [hq2]; rfl)
  ((try cbv) <;> (repeat ((with_reducible refine EW.of ?_); cbv)))
end Go.Proofs.Ytaieiigfheabfaa
