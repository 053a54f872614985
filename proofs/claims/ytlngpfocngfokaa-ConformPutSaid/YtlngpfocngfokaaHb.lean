import Derived.Test.YtlngpfocngfokaaHa
/-! The walk's iterator. -/
namespace Go.Proofs.Ytlngpfocngfokaa
open Go.Proofs.Ytlngpfocngfokaa.Tw
def loopO (l0 : List (Nat × AV)) (ps : Array Tmp) (ac bd : Code) : Bool → Option AO
  | true => some (.loop .ready none 37 l0 ps ac bd)
  | false => some (.loop .done (some .ret) 37 l0 ps ac bd)
def Con.nest {P : Program} {E : Em} (C : Con P E) (l0 : List (Nat × AV)) (ps : Array Tmp) (ac bd : Code) (h0 : l0.all (fun x => x.2.upto C.K) = true)
    (hy : ∀ n x t (d : Nat), C.Iv x → low n t → d ≤ 1000000 → YS P (C.st x ++ [some (.loop .ready none 37 l0 ps ac bd)]) C.K [.imm (cellsT E t), .int .i64 (d : Int)] (C.f x t d).2 (C.st (C.f x t d).1 ++ [loopO l0 ps ac bd (C.f x t d).2])) : Con P E where
  σ := C.σ × Bool
  st := fun x => C.st x.1 ++ [loopO l0 ps ac bd x.2]
  K := C.K + 1
  p := C.K
  f := nestf C.f
  Iv := fun x => C.Iv x.1 ∧ x.2 = true
  len := fun x => by simp [C.len]
  up := fun x => by
    rw [List.all_append, Bool.and_eq_true]
    have hm : ∀ (a : AV), a.upto C.K = true → a.upto (C.K + 1) = true := fun a h => AV.upto_le (Nat.le_succ _) a h
    refine ⟨List.all_eq_true.2 fun o ho => oUpto_le (Nat.le_succ _) (List.all_eq_true.1 (C.up x.1) o ho), ?_⟩
    have h1 : l0.all (fun x => x.2.upto (C.K + 1)) = true := List.all_eq_true.2 fun y hy => hm _ (List.all_eq_true.1 h0 y hy)
    cases x.2 <;> simpa [loopO, oUpto, AO.upto] using h1
  lt := Nat.lt_succ_self _
  inv := fun x t d hx h => ⟨C.inv x.1 t d hx.1 h, h⟩
  ys := fun n x t d hx hl hd => by
    obtain ⟨x1, b⟩ := x
    obtain ⟨h1, h2⟩ := hx
    have h2 : b = true := h2
    subst h2
    exact hy n x1 t d h1 hl hd
set_option maxRecDepth 100000 in
set_option maxHeartbeats 4000000 in
theorem walk54 (A : Ar) (E : Em) {P : Program} (hP : P = Try.prog) : ∀ (n : Nat) (t : Tree), low n t → ∀ (C : Con P E) (x : C.σ) (d : Nat), C.Iv x → d + n ≤ 1000000 →
    TC P 54 [.yield C.p, .imm [.imm (cellsT E t)], .imm [.int .i64 (d : Int)]] (C.st x) (fun e L' => e = .ret (.tup []) ∧ L' = C.st (runT C.f t d x).1) := by
  intro n
  induction n with
  | zero => exact fun _ h => h.elim
  | succ n ih =>
  intro t hlow C x d hIv hd
  obtain ⟨σ, st, K, p, f, Iv, hlen, hup, hlt, hinv, hys⟩ := C
  dsimp only at x hIv ⊢
  refine TC.of_ewp A T0 (T0_ok hP) (hP ▸ Try.func54) rfl _ rfl (by simp) ?_
  have hysx := hys (n + 1) x t d hIv hlow (by omega)
  have hinvx := hinv x t d hIv
  obtain ⟨i, k, s, ks⟩ := t
  have hpc := cellsT_pur E (.node i k s ks)
  have hek := E.tree.len ks
  have hlk : A.len (E.tree.l ks) = (ks.length : Int) := by rw [A.ok_len, hek]
  unfold cellsT at hpc hysx ⊢
  rw [hlen x]
  show ebox K (st x) (.yield p) (fun av L' => EW A T0 P none K _ _ ⟨37, [(3, av), (0, .yield p), (1, .imm [.imm [.int .i64 i, .int .i64 k, .str s, .sl 4 (E.tree.l ks)]]), (2, .imm [.int .i64 d])]⟩ L')
  refine chk_iff.2 ⟨by simp [AV.known, hlen], ?_⟩
  refine EW.frz (by rw [hlen]; exact Nat.le_refl _) rfl (by simpa [AV.upto, hlen] using hlt) (by simp only [List.all_cons, AV.upto, uptoL, uptoL_pur _ _ (E.tree.purL ks), hlt, hlen]; simp [hlt]) (by rw [hlen]; exact hup x) ?_
  obtain ⟨r, hr⟩ : ∃ r, r = f x (.node i k s ks) d := ⟨_, rfl⟩
  rw [← hr] at hysx hinvx
  obtain ⟨x1, b⟩ := r
  obtain ⟨n', l', ps', ac', bd', hg, hsz, hyw⟩ := hysx.get
  have hlx := hlen x
  have hlx1 := hlen x1
  with_reducible refine EW.of ?_
  cbv
  refine byes (bleM _ _ (Nat.le_of_eq (hlx.symm.trans (List.length.eq_def (st x))))) ?_
  rw [← List.get?Internal.eq_def, show (st x).get?Internal p = _ from hg]
  refine chk_iff.2 ⟨hsz, hyw (T0_ok hP) ?_⟩
  cases b with
  | false =>
    have hrun : (runT f (.node i k s ks) d x).1 = x1 := by rw [runT, ← hr]
    rw [hrun]
    cbv
    ((try cbv) <;> (repeat ((with_reducible refine EW.of ?_); cbv)))
    exact ⟨_, _, VSV.refl _ _ _, rfl, rfl⟩
  | true =>
    have hrun : runT f (.node i k s ks) d x = runK f ks (d + 1) x1 := by rw [runT, ← hr]
    rw [hrun]
    cbv
    ((try cbv) <;> (repeat ((with_reducible refine EW.of ?_); cbv)))
    obtain ⟨J, hJ⟩ : ∃ J : Nat → AFr → Store → Prop, J = fun c fr L => ∃ (j : Nat) (y : σ), c = ks.length - j ∧ j ≤ ks.length ∧ Iv y ∧ runK f ks (d + 1) x1 = runK f (ks.drop j) (d + 1) y ∧
      fr = ⟨37, [(17, .int .i64 j), (16, .int .i64 (A.len (E.tree.l ks))), (3, .imm [.yield p]), (1, .imm [.imm [.int .i64 i, .int .i64 k, .str s, .sl 4 (E.tree.l ks)]]), (2, .imm [.int .i64 d])]⟩ ∧ L = st y := ⟨_, rfl⟩
    refine TW.loopE A (T0_ok hP) J (n0 := ks.length)
      (fr0 := ⟨37, [(17, .int .i64 0), (16, .int .i64 (A.len (E.tree.l ks))), (3, .imm [.yield p]), (1, .imm [.imm [.int .i64 i, .int .i64 k, .str s, .sl 4 (E.tree.l ks)]]), (2, .imm [.int .i64 d])]⟩) (L0 := st x1)
      (VS.pick rfl (.cons (Sub.refl _) (.cons (Sub.refl _) (.cons (Sub.refl _) (.cons (Sub.refl _) (.cons (Sub.refl _) .nil)))))) (by rw [hJ]; exact ⟨0, x1, rfl, by omega, hinvx rfl, rfl, rfl, rfl⟩) ?_
    intro c fr L hj
    rw [hJ] at hj
    obtain ⟨j, y, hc, hj, hIy, hrk, rfl, rfl⟩ := hj
    cbv
    ((try cbv) <;> (repeat ((with_reducible refine EW.of ?_); cbv)))
    refine bsplit (fun h => ?_) (fun h => ?_)
    · have h : j < ks.length := lt_nt h rfl hlk
      obtain ⟨t', ht'⟩ : ∃ t', ks[j]? = some t' := ⟨_, List.getElem?_eq_getElem h⟩
      have hlow' := hlow.2 t' (List.mem_of_getElem? ht')
      rw [runK_drop f ht'] at hrk
      have hd1 : A.op .add .i64 (d : Int) 1 = ((d + 1 : Nat) : Int) := inc_eq A (by omega)
      obtain ⟨i', k', s', ks'⟩ := t'
      have hgn := E.getn ht'
      have k51 := walk51 A E hP (cellsT E (.node i' k' s' ks')) (cellsT_pur E _) ((d + 1 : Nat) : Int)
      unfold cellsT at k51
      have hly := hlen y
      ((try cbv) <;> (repeat ((with_reducible refine EW.of ?_); cbv)))
      (refine TW.draw (A := A) (T0_ok hP) (hP ▸ follows_mixed) (by kernel_rfl) (by rw [hly]; simp) ?_; cbv)
      refine ⟨j, _, rfl, hgn, ?_⟩
      cbv
      refine ⟨Ent.of (hP ▸ Try.func51) rfl, ?_⟩
      refine ⟨_, TC.pureX k51 (by
        cbv
        (repeat (first | exact trivial | refine And.intro (Emb.Pur _ _) ?_ | refine And.intro rfl ?_ | refine And.intro hd1 ?_))), ?_⟩
      cbv
      ((try cbv) <;> (repeat ((with_reducible refine EW.of ?_); cbv)))
      refine TW.pick (n := 37) rfl (l := [(28, .func (.func 54) [] [.imm [.imm [.int .i64 i', .int .i64 k', .str s', .sl 4 (E.tree.l ks')]], .imm [.int .i64 ((d + 1 : Nat) : Int)]]), (17, .int .i64 j), (16, .int .i64 (A.len (E.tree.l ks))), (3, .imm [.yield p]), (1, .imm [.imm [.int .i64 i, .int .i64 k, .str s, .sl 4 (E.tree.l ks)]]), (2, .imm [.int .i64 d])]) (.cons (Sub.refl _) (.cons (Sub.refl _) (.cons (Sub.refl _) (.cons (Sub.refl _) (.cons (Sub.refl _) (.cons (Sub.refl _) .nil)))))) ?_
      refine TW.range rfl (by rw [hly]; simp) (Ent.of (hP ▸ Try.func54) rfl) ?_
      rw [hly]
      dsimp only
      refine TC.mono (ih _ hlow' ((Con.mk (P := P) (E := E) σ st K p f Iv hlen hup hlt hinv hys).nest _ _ _ _ ?h0 ?hy) (y, true) (d + 1) ⟨hIy, rfl⟩ (by omega)) ?_
      case h0 =>
        dsimp only
        simp only [List.all_cons, List.all_nil, AV.upto, uptoL, uptoL_pur _ _ (E.tree.purL _), hlt, decide_true, Bool.and_true]
      case hy =>
        intro n2 x2 t2 d2 hI2 hl2 hd2
        dsimp only at x2 hI2 ⊢
        have hy2 := hys n2 x2 t2 d2 hI2 hl2 hd2
        obtain ⟨r2, hr2⟩ : ∃ r, r = f x2 t2 d2 := ⟨_, rfl⟩
        rw [← hr2] at hy2 ⊢
        obtain ⟨x3, b⟩ := r2
        dsimp only at hy2 ⊢
        have hu2 := hup x2
        have hl2 := hlen x2
        have hpt := uptoL_pur (K + 1) _ (cellsT_pur E t2)
        obtain ⟨ct, hct⟩ : ∃ c, c = cellsT E t2 := ⟨_, rfl⟩
        rw [← hct] at hy2 hpt ⊢
        have hlt1 : p < K + 1 := Nat.lt_succ_of_lt hlt
        refine YS.nest (l1 := [(6, .int .i64 d2), (5, .imm ct), (30, .int .i64 d2), (29, .imm ct), (28, .func (.func 54) [] [.imm [.imm [.int .i64 i', .int .i64 k', .str s', .sl 4 (E.tree.l ks')]], .imm [.int .i64 ((d + 1 : Nat) : Int)]]), (17, .int .i64 j), (16, .int .i64 (A.len (E.tree.l ks))), (3, .imm [.yield p]), (1, .imm [.imm [.int .i64 i, .int .i64 k, .str s, .sl 4 (E.tree.l ks)]]), (2, .imm [.int .i64 d])]) hl2 (hlen x3) rfl hu2 ?_ ?_ ?_ ?_ ?_ ?_
        · simp only [List.all_cons, List.all_nil, AV.upto, uptoL, uptoL_pur _ _ (E.tree.purL _), hlt1, decide_true, Bool.and_true]
        · simp [aputs, aputf, AV.upto, uptoL, uptoL_pur _ _ (E.tree.purL _), hlt1, hpt]
        · simp only [List.all_cons, List.all_nil, AV.upto, uptoL, uptoL_pur _ _ (E.tree.purL _), hlt1, hpt, decide_true, Bool.and_true]
        · cases b <;> rfl
        · intro kk L2 hL2
          refine Tw.of_ewpT (A := A) (T0_ok hP) ?_
          cbv
          ((try cbv) <;> (repeat ((with_reducible refine EW.of ?_); cbv)))
        · intro kk L2 L3 Q2 M h2 h3 n2 n3 q1 q2
          obtain ⟨n', l', ps', ac', bd', hg, hsz, hyw⟩ := hy2.getM M h2
          refine Tw.of_ewpT (A := A) (T0_ok hP) ?_
          cbv
          refine byes (bleM _ _ (Nat.le_of_eq (n2.symm.trans (List.length.eq_def L2)))) ?_
          rw [← List.get?Internal.eq_def, show L2.get?Internal p = _ from hg]
          refine chk_iff.2 ⟨hsz, hyw (T0_ok hP) ?_⟩
          rw [← h3]
          cases b with
          | true =>
            have q1 := q1 rfl
            cbv
            ((try cbv) <;> (repeat ((with_reducible refine EW.of ?_); cbv)))
            exact q1 _
          | false =>
            have q2 := q2 rfl
            cbv
            ((try cbv) <;> (repeat ((with_reducible refine EW.of ?_); cbv)))
            exact q2 _
      rintro e L1 ⟨rfl, rfl⟩
      dsimp only [Con.nest]
      rw [runT_nest]
      obtain ⟨r2, hr2⟩ : ∃ r, r = runT f (.node i' k' s' ks') (d + 1) y := ⟨_, rfl⟩
      rw [runK] at hrk
      have hIy1 := runT_inv hinv (.node i' k' s' ks') (d + 1) y hIy
      rw [← hr2] at hrk hIy1 ⊢
      obtain ⟨y1, b⟩ := r2
      have hly1 := hlen y1
      cases b with
      | false =>
        refine rangeQ_ret (last_get _ _ hly1) ?_
        rw [last_set _ _ _ hly1, hrk]
        obtain ⟨L4, hL4⟩ : ∃ L4, L4 = st y1 ++ [none] := ⟨_, rfl⟩
        rw [← hL4]
        have htk : L4.take K = st y1 := by rw [hL4, ← hly1]; simp
        have hv : VSV K (.tup []) L4 (.tup []) (st y1) := htk ▸ VSV.trunc K (Nat.le_refl _) rfl (by rw [htk]; exact hup y1)
        cbv
        ((try cbv) <;> (repeat ((with_reducible refine EW.of ?_); cbv)))
        exact ⟨_, _, hv, rfl, rfl⟩
      | true =>
        refine rangeQ_none (last_get _ _ hly1) ?_
        rw [last_set _ _ _ hly1]
        refine EW.trunc _ (by rw [hly1]; exact Nat.le_refl _) ?_ (by rw [hly1]; exact hup y1) ?_
        · rw [hly1]
          simp only [List.all_cons, List.all_nil, AV.upto, uptoL, uptoL_pur _ _ (E.tree.purL _), hlt, decide_true, Bool.and_true]
        with_reducible refine EW.of ?_
        cbv
        ((try cbv) <;> (repeat ((with_reducible refine EW.of ?_); cbv)))
        refine ⟨ks.length - (j + 1), ⟨37, [(17, .int .i64 ((j + 1 : Nat) : Int)), (16, .int .i64 (A.len (E.tree.l ks))), (3, .imm [.yield p]), (1, .imm [.imm [.int .i64 i, .int .i64 k, .str s, .sl 4 (E.tree.l ks)]]), (2, .imm [.int .i64 d])]⟩, st y1, by omega,
          VS.pick rfl (.cons (Sub.inc A (by have := hlow.1; omega)) (.cons (Sub.refl _) (.cons (Sub.refl _) (.cons (Sub.refl _) (.cons (Sub.refl _) .nil))))), ?_⟩
        rw [hJ]
        exact ⟨j + 1, y1, rfl, by omega, hIy1 rfl, hrk, rfl, rfl⟩
    · have h : ks.length ≤ j := lt_nf h rfl hlk
      rw [List.drop_eq_nil_of_le h, runK] at hrk
      rw [hrk]
      ((try cbv) <;> (repeat ((with_reducible refine EW.of ?_); cbv)))
      exact ⟨_, _, VSV.refl _ _ _, rfl, rfl⟩
end Go.Proofs.Ytlngpfocngfokaa
