import Derived.Test.YtpjibokaeefhiaaTwR
/-! Handles for walks that are reckoned out. -/
namespace Go.Proofs.Ytpjibokaeefhiaa.Tw
open Go.RowKit
set_option linter.unusedVariables false
set_option linter.unusedSimpArgs false
/-- A loop's round has ended; the next one begins. -/
structure LQ (K : Nat) (J : Nat → AFr → Store → Prop) (n : Nat) (fr : AFr) (L : Store) : Prop where
  h : ∃ m fr'' L'', m < n ∧ VS K fr L fr'' L'' ∧ J m fr'' L''
theorem TW.loopE (A : Ar) {T : TyOps} {P : Program} {r : Option Nat} {K : Nat} {c : Code} {Q : AEx → AFr → Store → Prop} {fr : AFr} {L : Store} (hT : T = tyOf P) (J : Nat → AFr → Store → Prop) {n0 : Nat} {fr0 : AFr} {L0 : Store} (hv : VS K fr L fr0 L0) (h0 : J n0 fr0 L0)
    (round : ∀ n fr L, J n fr L → ewp A T P r K c (thenQ (LQ K J n) Q) fr L) : TW P r K (.loop c) Q fr L := by
  subst hT
  exact ⟨Tw.loop J hv h0 fun n fr L h => (Tw.of_ewp _ _ _ _ (round n fr L h)).mono fun e fr L hq => by
    cases e <;> first | exact hq | exact hq.h⟩
/-- An argument of a callee is what it is. -/
theorem VS.pick {K : Nat} {fr : AFr} {L : Store} {n : Nat} {l : List (Nat × AV)} (hn : fr.n = n) (h : SubL fr l) : VS K fr L ⟨n, l⟩ L := hn ▸ VS.sub h
/-- Of a pure function: its contract. -/
theorem TPure.of {P : Program} {f : FuncId} {args : List AV} {r : AV} (h : TC P f args [] fun x L' => x = .ret r ∧ L' = []) : TPure P f args r := h.h.pure
theorem TC.pure {P : Program} {f : FuncId} {args : List AV} {r : AV} {L : Store} {R : AEnd → Store → Prop} (h : TPure P f args r) (hp : purL args = true) (hr : R (.ret r) L) : TC P f args L R := ⟨h.call hp hr⟩
/-- What lies at place q lies at place n from here on. -/
inductive Mv (q n : Nat) : AV → AV → Prop
  | keep (a : AV) (h : a.upto n = true) : Mv q n a a
  | row (w off k : Nat) : Mv q n (.row q w off k) (.row n w off k)
  | ref (w i f : Nat) : Mv q n (.ref q w i f) (.ref n w i f)
  | tup (cs ds : List AV) (hl : cs.length = ds.length) (h : ∀ (j : Nat) (c d : AV), cs[j]? = some c → ds[j]? = some d → Mv q n c d) : Mv q n (.tup cs) (.tup ds)
theorem Mv.rep {q n b : Nat} {w : World} {I : Nat → Prop} {ρ : List Nat} (hn : n ≤ ρ.length) (hb : ρ[q]? = some b) {a c : AV} (h : Mv q n a c) : ∀ {v : Value}, Rep w I ρ v a → Rep w I (ρ.take n ++ [b]) v c := by
  have hlast : (ρ.take n ++ [b])[n]? = some b := by rw [List.getElem?_append_right (by simp; omega)]; simp [Nat.min_eq_left hn]
  have hle : Le w I (ρ.take n) w I (ρ.take n ++ [b]) := ⟨fun _ _ => rfl, fun _ h => h, fun _ _ h => rho_app h, fun _ C _ h => ⟨C, h, rfl⟩⟩
  induction h with
  | keep a h => exact fun hv => (hv.take n h).mono hle
  | row wd off k =>
    intro v hv
    cases hv with
    | row _ _ _ _ b' c C t hb' hn hB hC => rw [hb] at hb'; cases hb'; exact .row n wd off k b c C t hlast hn hB hC
  | ref wd i f =>
    intro v hv
    cases hv with
    | ref _ _ _ _ b' hb' => rw [hb] at hb'; cases hb'; exact .ref n wd i f b hlast
  | tup cs ds hl h ih =>
    intro v hv
    cases hv with
    | tup vs _ hl' hr =>
      exact .tup vs ds (hl'.trans hl) fun j u d hu hd => by
        have hlt := (List.getElem?_eq_some_iff.1 hd).1
        have hc : cs[j]? = some (cs[j]'(by omega)) := List.getElem?_eq_getElem (by omega)
        exact ih j _ d hc hd (hr j u _ hu hc)
inductive MvL (q n : Nat) (fr : AFr) : List (Nat × AV) → Prop
  | nil : MvL q n fr []
  | cons {t : Nat} {v : AV} {l : List (Nat × AV)} (h : Mv q n (aget fr t) v) (k : MvL q n fr l) : MvL q n fr ((t, v) :: l)
theorem MvL.get {q n : Nat} {fr : AFr} {l : List (Nat × AV)} (h : MvL q n fr l) (t : Nat) : agetL l t = .any ∨ Mv q n (aget fr t) (agetL l t) := by
  induction h with
  | nil => exact .inl rfl
  | cons h k ih =>
    simp only [agetL]
    split
    · rename_i e; subst e; exact .inr h
    · exact ih
/-- The newest object is moved down; what lay in between is forgotten. -/
theorem VS.settle {K m : Nat} {fr : AFr} {L : Store} {l : List (Nat × AV)} {o : AO} (q n : Nat) (hm : fr.n = m) (hK : K ≤ n) (hq : n ≤ L.length) (ho : L[q]? = some (some o)) (hu : o.upto n = true) (hL : ((L.set q none).take n).all (oUpto n) = true) (h : MvL q n fr l) : VS K fr L ⟨m, l⟩ ((L.set q none).take n ++ [some o]) := fun w I ρ tmps h1 h2 => by
  have hql := (List.getElem?_eq_some_iff.1 ho).1
  have hlen := h1.len
  obtain ⟨b, hb⟩ : ∃ b, ρ[q]? = some b := ⟨_, List.getElem?_eq_getElem (by omega)⟩
  have hnl : n ≤ ρ.length := by omega
  have hle : Le w I (ρ.take n) w I (ρ.take n ++ [b]) := ⟨fun _ _ => rfl, fun _ h => h, fun _ _ h => rho_app h, fun _ C _ h => ⟨C, h, rfl⟩⟩
  have cs : ∀ (p : Nat) (x : AO) (c : Nat), ((L.set q none).take n ++ [some o])[p]? = some (some x) → (ρ.take n ++ [b])[p]? = some c → (p ≠ q ∧ p < n ∧ L[p]? = some (some x) ∧ ρ[p]? = some c ∧ x.upto n = true) ∨ (p = n ∧ x = o ∧ c = b) := by
    intro p x c h3 h4
    by_cases hp : p < n
    · rw [List.getElem?_append_left (by simp; omega)] at h3
      rw [List.getElem?_append_left (by simp; omega)] at h4
      have hx := List.all_eq_true.1 hL _ (List.mem_of_getElem? h3)
      rw [List.getElem?_take, if_pos hp] at h3 h4
      obtain ⟨h3, hne⟩ := set_none h3
      exact .inl ⟨hne, hp, h3, h4, hx⟩
    · have e1 : ((L.set q none).take n).length = n := by simp; omega
      have e2 : (ρ.take n).length = n := by simp; omega
      rw [List.getElem?_append_right (by omega), e1] at h3
      rw [List.getElem?_append_right (by omega), e2] at h4
      have : p - n = 0 := by
        have := (List.getElem?_eq_some_iff.1 h3).1
        simp at this
        omega
      rw [this] at h3 h4
      simp at h3 h4
      exact .inr ⟨by omega, h3.symm, h4.symm⟩
  refine ⟨I, ρ.take n ++ [b], fun _ h => h, fun _ h => .inl h, fun c ⟨p, x, h3, h4⟩ => ?_, fun p hp => ?_, ⟨by simp; omega, fun p x c h3 h4 => ?_, fun p p' x y c h3 h4 h5 h6 => ?_, h1.imm⟩, h2.1.trans hm, fun t => ?_⟩
  · rcases cs p x c h3 h4 with ⟨_, _, q1, q2, _⟩ | ⟨rfl, rfl, rfl⟩
    · exact ⟨p, x, q1, q2⟩
    · exact ⟨q, _, ho, hb⟩
  · rw [List.getElem?_append_left (by simp; omega), List.getElem?_take, if_pos (by omega)]
  · rcases cs p x c h3 h4 with ⟨_, _, q1, q2, q3⟩ | ⟨rfl, rfl, rfl⟩
    · obtain ⟨a1, a2, a3⟩ := h1.own p x c q1 q2
      exact ⟨a1, a2, (a3.take n q3).mono hle rfl⟩
    · obtain ⟨a1, a2, a3⟩ := h1.own q _ c ho hb
      exact ⟨a1, a2, (a3.take p hu).mono hle rfl⟩
  · rcases cs p x c h3 h5 with ⟨k0, k1, q1, q2, q3⟩ | ⟨rfl, rfl, rfl⟩ <;> rcases cs p' y c h4 h6 with ⟨k0', k1', q1', q2', q3'⟩ | ⟨e1, e2, e3⟩
    · exact h1.inj p p' x y c q1 q1' q2 q2'
    · subst e3; exact absurd (h1.inj p q x o _ q1 ho q2 hb) k0
    · exact absurd (h1.inj p' q y _ _ q1' ho q2' hb) k0'
    · omega
  · rcases h.get t with e | e
    · show Rep w I _ _ (agetL l t); rw [e]; exact .any _
    · exact e.rep hnl hb (h2.2 t)
theorem VSV.settle {K : Nat} {v v' : AV} {L : Store} {o : AO} (q n : Nat) (hK : K ≤ n) (hq : n ≤ L.length) (ho : L[q]? = some (some o)) (hu : o.upto n = true) (hL : ((L.set q none).take n).all (oUpto n) = true) (h : Mv q n v v') : VSV K v L v' ((L.set q none).take n ++ [some o]) :=
  VS.settle q n rfl hK hq ho hu hL (.cons (by simpa [aget, agetL] using h) .nil)
/-- Arguments, one by one. -/
inductive RnL (π : List Nat) : List AV → List AV → Prop
  | nil : RnL π [] []
  | cons {a b : AV} {as bs : List AV} (h : Rn π a b) (k : RnL π as bs) : RnL π (a :: as) (b :: bs)
theorem RnL.len {π : List Nat} {as bs : List AV} (h : RnL π as bs) : as.length = bs.length := by induction h with | nil => rfl | cons _ _ ih => simp [ih]
theorem RnL.get {π : List Nat} {as bs : List AV} (h : RnL π as bs) : ∀ (j : Nat) (a b : AV), as[j]? = some a → bs[j]? = some b → Rn π a b := by
  induction h with
  | nil => intro j a b h; simp at h
  | cons h k ih =>
    intro j a b h1 h2
    cases j with
    | zero => simp at h1 h2; subst h1 h2; exact h
    | succ j => exact ih j a b (by simpa using h1) (by simpa using h2)
theorem RnO.pure {π : List Nat} {w : Nat} {els : List AV} (h : purL els = true) : RnO π (.arr w els) (.arr w els) := .arr w els els rfl fun i e f he hf => by
  rw [he] at hf; cases hf
  refine ⟨rfl, fun j c d hc hd => ?_⟩
  rw [hc] at hd; cases hd
  exact .pure (pur_cells (purL_mem h (List.mem_of_getElem? he)) (List.mem_of_getElem? hc))
/-- A call that is handed one row of ours, and hands it back. -/
theorem TC.row {P : Program} {f : FuncId} {args args' : List AV} {w n' q : Nat} {els els' : List AV} {L : Store} {R' : AEnd → Store → Prop} (h : TC P f args [some (.arr w els)] (fun x L' => x = .ret (.row 1 w 0 n') ∧ L' = [none, some (.arr w els')]))
    (hq : L[q]? = some (some (.arr w els))) (hp : purL els = true) (hp' : purL els' = true) (hargs : RnL [q] args args') (hR : R' (.ret (.row L.length w 0 n')) (L.set q none ++ [some (.arr w els')])) : TC P f args' L R' := by
  have hql := (List.getElem?_eq_some_iff.1 hq).1
  refine ⟨TCall.frame [q] h.h (by simp) rfl (fun i p hi => ?_) hargs.len hargs.get ?_⟩
  · cases i with
    | zero =>
      simp at hi; subst hi
      exact ⟨hql, fun o ho => ⟨_, hq, by simp at ho; subst ho; exact .pure hp⟩⟩
    | succ i => simp at hi
  · rintro x L' _ ⟨rfl, rfl⟩
    have hn : news L [q] [none, some (.arr w els')] = [q, L.length] := by simp [news]
    rw [hn]
    have hm : mergeL L [q] [q, L.length] [none, some (.arr w els')] = L.set q none ++ [some (.arr w els')] := by
      simp only [mergeL]
      congr 1
      · refine List.ext_getElem? fun k => ?_
        rw [List.getElem?_map, List.getElem?_set]
        by_cases hk : k < L.length
        · rw [List.getElem?_range hk]
          by_cases e : q = k
          · subst e; simp [hk, List.idxOf?, List.findIdx?_cons]
          · have : ([q] : List Nat).idxOf? k = none := by simp [List.idxOf?, List.findIdx?_cons, e]
            simp only [Option.map_some, this]
            rw [if_neg e]
            cases hx : L[k]? with
            | none => have := List.getElem?_eq_none_iff.1 hx; omega
            | some x => simp
        · rw [List.getElem?_eq_none (by simp; omega)]
          rw [if_neg (by omega), List.getElem?_eq_none (by omega)]
          rfl
      · simp [AO.ren, renL_pur _ els' hp']
    rw [hm]
    exact hR
/-- A call that hands back a new row of ours. -/
theorem TC.row0 {P : Program} {f : FuncId} {args args' : List AV} {w n' : Nat} {els' : List AV} {L : Store} {R' : AEnd → Store → Prop} (h : TC P f args [] (fun x L' => x = .ret (.row 0 w 0 n') ∧ L' = [some (.arr w els')]))
    (hp' : purL els' = true) (hargs : RnL [] args args') (hR : R' (.ret (.row L.length w 0 n')) (L ++ [some (.arr w els')])) : TC P f args' L R' := by
  refine ⟨TCall.frame [] h.h (by simp) rfl (fun i p hi => by simp at hi) hargs.len hargs.get ?_⟩
  rintro x L' _ ⟨rfl, rfl⟩
  have hn : news L [] [some (.arr w els')] = [L.length] := by simp [news]
  rw [hn]
  have hm : mergeL L [] [L.length] [some (.arr w els')] = L ++ [some (.arr w els')] := by
    simp only [mergeL]
    congr 1
    · refine List.ext_getElem? fun k => ?_
      rw [List.getElem?_map]
      by_cases hk : k < L.length
      · rw [List.getElem?_range hk]
        have : ([] : List Nat).idxOf? k = none := by simp
        simp only [Option.map_some, this]
        cases hx : L[k]? with
        | none => have := List.getElem?_eq_none_iff.1 hx; omega
        | some x => simp
      · rw [List.getElem?_eq_none (by simp; omega), List.getElem?_eq_none (by omega)]
        rfl
    · simp [AO.ren, renL_pur _ els' hp']
  rw [hm]
  exact hR
theorem Ent.of {P : Program} {f : FuncId} {fn : Func} (hf : P.funcs[f]? = some fn) (h : (fn.name != "runtime.NumGoroutine" && fn.body.isSome) = true) : Ent P f := ⟨by unfold enterB; rw [hf]; exact h⟩
/-! Laws of the arithmetic that was not reckoned out, as they are met. -/
section
variable {A : Ar} {a b a' b' : Int}
theorem lt_t (h : A.lt a b = true) (ha : a = a') (hb : b = b') : a' < b' := by subst ha hb; rw [A.ok_lt] at h; simpa using h
theorem lt_f (h : A.lt a b = false) (ha : a = a') (hb : b = b') : b' ≤ a' := by subst ha hb; rw [A.ok_lt] at h; simpa using h
theorem le_t (h : A.le a b = true) (ha : a = a') (hb : b = b') : a' ≤ b' := by subst ha hb; rw [A.ok_le] at h; simpa using h
theorem le_f (h : A.le a b = false) (ha : a = a') (hb : b = b') : b' < a' := by subst ha hb; rw [A.ok_le] at h; simpa using h
theorem eq_t (h : A.eq a b = true) (ha : a = a') (hb : b = b') : a' = b' := by subst ha hb; rw [A.ok_eq] at h; simpa using h
theorem eq_f (h : A.eq a b = false) (ha : a = a') (hb : b = b') : a' ≠ b' := by subst ha hb; rw [A.ok_eq] at h; simpa using h
theorem ne_t (h : A.bnot (A.eq a b) = true) (ha : a = a') (hb : b = b') : a' ≠ b' := by subst ha hb; rw [A.ok_bnot, A.ok_eq] at h; simpa using h
theorem ne_f (h : A.bnot (A.eq a b) = false) (ha : a = a') (hb : b = b') : a' = b' := by subst ha hb; rw [A.ok_bnot, A.ok_eq] at h; simpa using h
theorem not_t {b : Bool} (h : (match b with | true => false | false => true) = true) : b = false := by cases b <;> simp at h ⊢
theorem not_f {b : Bool} (h : (match b with | true => false | false => true) = false) : b = true := by cases b <;> simp at h ⊢
theorem seq_t {x y : ByteArray} (h : A.seq x y = true) : strEq x y = true := by rwa [A.ok_seq] at h
theorem seq_f {x y : ByteArray} (h : A.seq x y = false) : strEq x y = false := by rwa [A.ok_seq] at h
theorem wrap_i64 {x : Int} (h1 : -9223372036854775808 ≤ x) (h2 : x ≤ 9223372036854775807) : IntKind.i64.wrap x = x := by
  simp only [IntKind.wrap, IntKind.signed, IntKind.bits, Bool.true_and]
  split <;> rename_i h <;> simp at h <;> omega
theorem add_i64 (ha : a = a') (hb : b = b') (h1 : -9223372036854775808 ≤ a' + b') (h2 : a' + b' ≤ 9223372036854775807) : A.op .add .i64 a b = a' + b' := by subst ha hb; rw [A.ok_add, wrap_i64 h1 h2]
theorem sub_i64 (ha : a = a') (hb : b = b') (h1 : -9223372036854775808 ≤ a' - b') (h2 : a' - b' ≤ 9223372036854775807) : A.op .sub .i64 a b = a' - b' := by subst ha hb; rw [A.ok_sub, wrap_i64 h1 h2]
theorem lt_nt {i j : Nat} (h : A.lt a b = true) (ha : a = (i : Int)) (hb : b = (j : Int)) : i < j := Int.ofNat_lt.1 (lt_t h ha hb)
theorem lt_nf {i j : Nat} (h : A.lt a b = false) (ha : a = (i : Int)) (hb : b = (j : Int)) : j ≤ i := Int.ofNat_le.1 (lt_f h ha hb)
theorem le_nt {i j : Nat} (h : A.le a b = true) (ha : a = (i : Int)) (hb : b = (j : Int)) : i ≤ j := Int.ofNat_le.1 (le_t h ha hb)
theorem le_nf {i j : Nat} (h : A.le a b = false) (ha : a = (i : Int)) (hb : b = (j : Int)) : j < i := Int.ofNat_lt.1 (le_f h ha hb)
theorem Sub.eq {x y : AV} (h : x = y) : Sub x y := h ▸ Sub.refl _
theorem Sub.int {k : IntKind} (h : a = b) : Sub (.int k a) (.int k b) := h ▸ Sub.refl _
theorem inc_eq (A : Ar) {i : Nat} (h : i < 9223372036854775807) : A.op .add .i64 (Int.ofNat i) 1 = ((i + 1 : Nat) : Int) :=
  (add_i64 (A := A) (a := Int.ofNat i) (b := 1) (a' := (i : Int)) (b' := 1) rfl rfl (by omega) (by omega)).trans (by simp)
theorem Rn.int {π : List Nat} {k : IntKind} (h : a = b) : Rn π (.int k a) (.int k b) := h ▸ .pure rfl
theorem Sub.inc (A : Ar) {i : Nat} (h : i < 9223372036854775807) : Sub (.int .i64 (A.op .add .i64 (Int.ofNat i) 1)) (.int .i64 ((i + 1 : Nat) : Int)) :=
  Sub.int ((add_i64 (A := A) (a := Int.ofNat i) (b := 1) (a' := (i : Int)) (b' := 1) rfl rfl (by omega) (by omega)).trans (by simp))
end
end Go.Proofs.Ytpjibokaeefhiaa.Tw
