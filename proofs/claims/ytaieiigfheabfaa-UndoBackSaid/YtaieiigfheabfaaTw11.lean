import Derived.Test.YtaieiigfheabfaaTw10
/-! Rounds of loops over functions, in greater stores. -/
namespace Go.Proofs.Ytaieiigfheabfaa.Tw
open Go.RowKit
set_option linter.unusedVariables false
set_option linter.unusedSimpArgs false
theorem ext_le (w : World) (I : Nat → Prop) (ρ ρ2 : List Nat) : Le w I ρ w I (ρ ++ ρ2) := ⟨fun _ _ => rfl, fun _ h => h, fun p b hp => by rw [List.getElem?_append_left (List.getElem?_eq_some_iff.1 hp).1]; exact hp, fun b C t h => ⟨C, h, rfl⟩⟩
/-- Code that is walked on a store is walked likewise where more lies behind. -/
theorem Tw.frameM {P : Program} {r : Option Nat} {c : Code} {Q : AEx → AFr → Store → Prop} {fr : AFr} {L : Store} (M : Store) (hQ : ∀ x fr' L', Q x fr' L' → L'.length = L.length)
    (hfr : fr.l.all (fun x => x.2.upto L.length) = true) (hL : L.all (oUpto L.length) = true) (h : Tw P r L.length c Q fr L) :
    Tw P r (L ++ M).length c (fun x fr' L'' => ∃ L', Q x fr' L' ∧ L'' = L' ++ M) fr (L ++ M) := by
  intro S a w I ρ h1 h2 h3
  have hlen : ρ.length = L.length + M.length := by rw [h1.len]; simp
  obtain ⟨ρ0, hρ0⟩ : ∃ ρ0, ρ0 = ρ.take L.length := ⟨_, rfl⟩
  obtain ⟨ρ1, hρ1⟩ : ∃ ρ1, ρ1 = ρ.drop L.length := ⟨_, rfl⟩
  have hρ : ρ = ρ0 ++ ρ1 := by rw [hρ0, hρ1, List.take_append_drop]
  have hl0 : ρ0.length = L.length := by rw [hρ0, List.length_take]; omega
  have hget0 : ∀ p, p < L.length → ρ0[p]? = ρ[p]? := fun p hp => by rw [hρ, List.getElem?_append_left (by omega)]
  have hLM : ∀ p, p < L.length → (L ++ M)[p]? = L[p]? := fun p hp => List.getElem?_append_left hp
  have hlt : ∀ {p : Nat} {o : AO} {X : Store}, X[p]? = some (some o) → p < X.length := fun h => (List.getElem?_eq_some_iff.1 h).1
  have hrel : Rel w I ρ0 L := by
    refine ⟨hl0, fun p o b hp hb => ?_, fun p q o o' b hp hq hbp hbq => ?_, h1.imm⟩
    · have hp' := hlt hp
      obtain ⟨a1, a2, a3⟩ := h1.own p o b (by rw [hLM p hp']; exact hp) (by rw [← hget0 p hp']; exact hb)
      have hm := List.all_eq_true.1 hL _ (List.mem_of_getElem? hp)
      exact ⟨a1, a2, hρ0 ▸ a3.take L.length hm⟩
    · have hp' := hlt hp
      have hq' := hlt hq
      exact h1.inj p q o o' b (by rw [hLM p hp']; exact hp) (by rw [hLM q hq']; exact hq) (by rw [← hget0 p hp']; exact hbp) (by rw [← hget0 q hq']; exact hbq)
  have hfr' : RepF w I ρ0 a.tmps fr := ⟨h2.1, fun t => hρ0 ▸ (h2.2 t).take L.length (agetL_upto hfr t)⟩
  have hown : ∀ b, Owned ρ0 L b → Owned ρ (L ++ M) b := fun b ⟨p, o, hp, hb⟩ => by
    have hp' := hlt hp
    exact ⟨p, o, by rw [hLM p hp']; exact hp, by rw [← hget0 p hp']; exact hb⟩
  refine wpIn_mono (h S a w I ρ0 hrel hfr' h3) ?_
  rintro e a' w' ⟨x, fr', L', I', ρ', hx, q, r1, r2, r3, ev, hs⟩
  have hL' := hQ _ _ _ q
  have hρ' : ρ' = ρ0 := by
    apply List.ext_getElem?
    intro p
    by_cases hp : p < L.length
    · exact ev.rho p hp
    · rw [List.getElem?_eq_none (by rw [r1.len]; omega), List.getElem?_eq_none (by omega)]
  subst hρ'
  have hle0 : Le w' I' ρ' w' I' ρ := hρ ▸ ext_le w' I' ρ' ρ1
  have hM0 : ∀ (p : Nat) (o : AO) (b : Nat), L.length ≤ p → (L ++ M)[p]? = some (some o) → ρ[p]? = some b → ¬ Owned ρ' L b := fun p o b hp ho hb ⟨q, o', hq, hbq⟩ => by
    have hq' := hlt hq
    have := h1.inj p q o o' b ho (by rw [hLM q hq']; exact hq) hb (by rw [← hget0 q hq']; exact hbq)
    omega
  have hleM : Le w I ρ w' I' ρ := ⟨fun b hb => ev.keep b (h1.imm b hb) (hrel.free hb), ev.imm, fun _ _ h => h, ev.cells⟩
  have hMat : ∀ p, L.length ≤ p → (L' ++ M)[p]? = (L ++ M)[p]? := fun p hp => by
    rw [List.getElem?_append_right (by omega), List.getElem?_append_right hp, hL']
  have hat : ∀ p, p < L.length → (L' ++ M)[p]? = L'[p]? := fun p hp => List.getElem?_append_left (by omega)
  have hM1 : ∀ (p : Nat) (o : AO) (b : Nat), L.length ≤ p → (L ++ M)[p]? = some (some o) → ρ[p]? = some b → ¬ Owned ρ' L' b := fun p o b hp ho hb hw => by
    rcases ev.own b hw with hw | hw
    · exact hM0 p o b hp ho hb hw
    · have := (h1.own p o b ho hb).1
      omega
  refine ⟨x, fr', L' ++ M, I', ρ, ?_, ⟨L', q, rfl⟩, ⟨by rw [hlen]; simp [hL'], fun p o b hp hb => ?_, fun p q o o' b hp hq hbp hbq => ?_, r1.imm⟩, r2.mono hle0, r3, ⟨ev.os, ev.tape, ev.output, ev.size, fun b hb hn => ev.keep b hb (fun ho => hn (hown b ho)), ev.imm, fun b hb => ?_, fun b hb => ?_, ev.cells, fun _ _ => rfl⟩, hs⟩
  · unfold ExRel at hx ⊢
    cases e <;> cases x <;> first | exact hx | (obtain ⟨v, h1, h2⟩ := hx; exact ⟨v, h1, h2.mono hle0⟩)
  · by_cases hlt' : p < L.length
    · rw [hat p hlt'] at hp
      rw [← hget0 p hlt'] at hb
      obtain ⟨a1, a2, a3⟩ := r1.own p o b hp hb
      exact ⟨a1, a2, a3.mono hle0 rfl⟩
    · have hge : L.length ≤ p := by omega
      rw [hMat p hge] at hp
      obtain ⟨a1, a2, a3⟩ := h1.own p o b hp hb
      have hno := hM0 p o b hge hp hb
      refine ⟨Nat.lt_of_lt_of_le a1 ev.size, fun hI => ?_, a3.mono hleM (ev.keep b a1 hno)⟩
      rcases ev.imm' b hI with h | h | h
      · exact a2 h
      · omega
      · exact hno h
  · by_cases hp' : p < L.length <;> by_cases hq' : q < L.length
    · rw [hat p hp'] at hp
      rw [hat q hq'] at hq
      exact r1.inj p q o o' b hp hq (by rw [hget0 p hp']; exact hbp) (by rw [hget0 q hq']; exact hbq)
    · rw [hat p hp'] at hp
      rw [hMat q (by omega)] at hq
      exact absurd ⟨p, o, hp, by rw [hget0 p hp']; exact hbp⟩ (hM1 q o' b (by omega) hq hbq)
    · rw [hMat p (by omega)] at hp
      rw [hat q hq'] at hq
      exact absurd ⟨q, o', hq, by rw [hget0 q hq']; exact hbq⟩ (hM1 p o b (by omega) hp hbp)
    · rw [hMat p (by omega)] at hp
      rw [hMat q (by omega)] at hq
      exact h1.inj p q o o' b hp hq hbp hbq
  · rcases ev.imm' b hb with h | h | h
    · exact .inl h
    · exact .inr (.inl h)
    · exact .inr (.inr (hown b h))
  · obtain ⟨p, o, hp, hbp⟩ := hb
    by_cases hp' : p < L.length
    · rw [hat p hp'] at hp
      rcases ev.own b ⟨p, o, hp, by rw [hget0 p hp']; exact hbp⟩ with h | h
      · exact .inl (hown b h)
      · exact .inr h
    · rw [hMat p (by omega)] at hp
      exact .inl ⟨p, o, hp, hbp⟩
/-- A box made last is never written: a place in memory that stays. -/
theorem VS.frzLast {K n d wd : Nat} {v : AV} {l : List (Nat × AV)} {L : Store} (hK : K ≤ L.length) (hw : v.cells.length = wd) (hv : v.upto L.length = true) (hl : l.all (fun x => x.2.upto L.length) = true) (hL : L.all (oUpto L.length) = true) :
    VS K ⟨n, (d, .ref L.length wd 0 0) :: l⟩ (L ++ [some (.box wd v)]) ⟨n, (d, .imm v.cells) :: l⟩ L := fun w I ρ tmps h1 h2 => by
  have hlen : ρ.length = L.length + 1 := by rw [h1.len]; simp
  have hlast : (L ++ [some (.box wd v)])[L.length]? = some (some (.box wd v)) := by simp
  obtain ⟨b, hb⟩ : ∃ b, ρ[L.length]? = some b := ⟨_, List.getElem?_eq_getElem (by omega)⟩
  obtain ⟨a1, a2, a3⟩ := h1.own L.length _ b hlast hb
  have hLM : ∀ p, p < L.length → (L ++ [some (.box wd v)])[p]? = L[p]? := fun p hp => List.getElem?_append_left hp
  have hlt : ∀ {p : Nat} {o : AO} {X : Store}, X[p]? = some (some o) → p < X.length := fun h => (List.getElem?_eq_some_iff.1 h).1
  have htk : ∀ p, p < L.length → (ρ.take L.length)[p]? = ρ[p]? := fun p hp => by rw [List.getElem?_take, if_pos hp]
  have hleI : Le w I ρ w (fun c => I c ∨ c = b) ρ := ⟨fun _ _ => rfl, fun _ h => .inl h, fun _ _ h => h, fun b C t h => ⟨C, h, rfl⟩⟩
  have hother : ∀ p o c, p < L.length → L[p]? = some (some o) → ρ[p]? = some c → c ≠ b := fun p o c hp ho hc e => by
    subst e
    have := h1.inj p L.length o _ c (by rw [hLM p hp]; exact ho) hlast hc hb
    omega
  refine ⟨fun c => I c ∨ c = b, ρ.take L.length, fun _ h => .inl h, fun c hc => ?_, fun c ⟨p, o, hp, hc⟩ => ?_, fun p hp => htk p (by omega), ⟨by rw [List.length_take]; omega, fun p o c hp hc => ?_, fun p q o o' c hp hq hcp hcq => ?_, fun c hc => ?_⟩, h2.1, fun t => ?_⟩
  · rcases hc with hc | rfl
    · exact .inl hc
    · exact .inr ⟨L.length, _, hlast, hb⟩
  · have hp' := hlt hp
    exact ⟨p, o, by rw [hLM p hp']; exact hp, by rw [← htk p hp']; exact hc⟩
  · have hp' := hlt hp
    rw [htk p hp'] at hc
    obtain ⟨b1, b2, b3⟩ := h1.own p o c (by rw [hLM p hp']; exact hp) hc
    refine ⟨b1, fun hI => ?_, (b3.mono hleI rfl).take L.length (List.all_eq_true.1 hL _ (List.mem_of_getElem? hp))⟩
    rcases hI with hI | hI
    · exact b2 hI
    · exact hother p o c hp' hp hc hI
  · have hp' := hlt hp
    have hq' := hlt hq
    exact h1.inj p q o o' c (by rw [hLM p hp']; exact hp) (by rw [hLM q hq']; exact hq) (by rw [← htk p hp']; exact hcp) (by rw [← htk q hq']; exact hcq)
  · rcases hc with hc | rfl
    · exact h1.imm c hc
    · exact a1
  · have ht := h2.2 t
    simp only [aget, agetL] at ht ⊢
    split
    · rename_i e
      rw [if_pos e] at ht
      generalize tmps.getD t undef = u at ht
      cases ht with
      | ref _ _ _ _ b' hb' =>
        rw [hb] at hb'
        cases hb'
        obtain ⟨C, ty, q1, q2, q3⟩ := a3
        obtain ⟨q4, q5⟩ := q3 0 v rfl
        refine Rep.imm ⟨b, 0 * wd + 0, none⟩ v.cells (fun j => (C[j]?).getD undef) rfl (.inr rfl) (fun j hj => ?_) (fun j c hc => ?_)
        · obtain ⟨x, hx, _⟩ := q5 j _ (List.getElem?_eq_getElem hj)
          have hx' : C[j]? = some x := by rw [← hx]; congr 1; omega
          simp [World.cell?, q1, hx']
        · obtain ⟨x, hx, hr⟩ := q5 j c hc
          have hx' : C[j]? = some x := by rw [← hx]; congr 1; omega
          simp only [hx', Option.getD_some]
          exact (hr.mono hleI).take L.length (upto_cells hv (List.mem_of_getElem? hc))
    · rename_i e
      rw [if_neg e] at ht
      exact (ht.mono hleI).take L.length (agetL_upto hl t)
theorem EW.frz {A : Ar} {T : TyOps} {P : Program} {r : Option Nat} {K n d wd : Nat} {c : Code} {Q : AEx → AFr → Store → Prop} {v : AV} {l : List (Nat × AV)} {L : Store} (hK : K ≤ L.length) (hw : v.cells.length = wd) (hv : v.upto L.length = true) (hl : l.all (fun x => x.2.upto L.length) = true) (hL : L.all (oUpto L.length) = true)
    (h : EW A T P r K c Q ⟨n, (d, .imm v.cells) :: l⟩ L) : EW A T P r K c Q ⟨n, (d, .ref L.length wd 0 0) :: l⟩ (L ++ [some (.box wd v)]) := ⟨fun hT => Tw.vs (VS.frzLast hK hw hv hl hL) (h.h hT)⟩
theorem ayield_mono {P : Program} {L : Store} {p : Nat} {args : List AV} {R R' : AEnd → Store → Prop} (hR : ∀ e L', R e L' → R' e L') (h : ayield P L p args R) : ayield P L p args R' := by
  unfold ayield at h ⊢
  split at h
  · rename_i n l ps assign body hL
    refine ⟨h.1, fun k => (h.2 k).mono fun x fr L1 hq => ?_⟩
    unfold assQ at hq ⊢
    split at hq
    · split at hq
      · refine hq.mono fun x fr L2 hq => ?_
        unfold roundQ at hq ⊢
        split at hq
        · cases x <;> first | exact hR _ _ hq | exact hq
        · exact hq.elim
      · exact hq.elim
    · exact hq.elim
  · exact h.elim
/-- A round: called with args it hands b back and leaves L' for L, whatever lies behind. -/
structure YS (P : Program) (L : Store) (p : Nat) (args : List AV) (b : Bool) (L' : Store) : Prop where
  h : ∀ M, ayield P (L ++ M) p args (fun e L'' => e = .ret (.bool b) ∧ L'' = L' ++ M)
theorem YS.e {A : Ar} {T : TyOps} {P : Program} {L : Store} {p : Nat} {args : List AV} {b : Bool} {L' : Store} {R : AEnd → Store → Prop} (h : YS P L p args b L') (M : Store) (hT : T = tyOf P) (hR : R (.ret (.bool b)) (L' ++ M)) : eyield A T P (L ++ M) p args R := by
  have hy : ayield P (L ++ M) p args R := ayield_mono (fun e L2 ⟨h1, h2⟩ => by subst h1 h2; exact hR) (h.h M)
  unfold ayield at hy
  unfold eyield
  split at hy
  · rename_i n l ps assign body hL
    simp only [hL]
    exact chk_iff.2 ⟨by simpa using hy.1, ⟨fun k _ => hy.2 k⟩⟩
  · exact hy.elim
theorem YS.of {P : Program} {L : Store} {p : Nat} {args : List AV} {b : Bool} {L' : Store} {n : Nat} {l l1 : List (Nat × AV)} {ps : Array Tmp} {assign body : Code} (hp : L[p]? = some (some (.loop .ready none n l ps assign body))) (hps : ps.size = args.length) (hlen : L'.length = L.length)
    (hL : L.all (oUpto L.length) = true) (hfr : (aputs (ps.toList.zip args) ⟨n, l⟩).l.all (fun x => x.2.upto L.length) = true) (hfr1 : l1.all (fun x => x.2.upto L.length) = true)
    (ha : ∀ k, Tw P (some k) L.length assign (fun x fr L1 => x = .normal ∧ fr = ⟨n, l1⟩ ∧ L1 = L) (aputs (ps.toList.zip args) ⟨n, l⟩) L)
    (hb : ∀ k, Tw P (some k) L.length body (roundQ p (fun e L'' => e = .ret (.bool b) ∧ L'' = L')) ⟨n, l1⟩ (L.set p (some (.loop .busy none n l ps assign body)))) : YS P L p args b L' := ⟨fun M => by
  have hpl : p < L.length := (List.getElem?_eq_some_iff.1 hp).1
  have hpM : (L ++ M)[p]? = some (some (.loop .ready none n l ps assign body)) := by rw [List.getElem?_append_left hpl]; exact hp
  unfold ayield
  simp only [hpM, Option.join_some]
  refine ⟨hps, fun k => ?_⟩
  refine (Tw.frameM M (fun x fr' L1 h => by rw [h.2.2]) hfr hL (ha k)).mono ?_
  rintro x fr' L'' ⟨L1, ⟨rfl, rfl, rfl⟩, rfl⟩
  unfold assQ
  simp only [hpM, Option.join_some]
  have hset : (L1 ++ M).set p (some (.loop .busy none n l ps assign body)) = L1.set p (some (.loop .busy none n l ps assign body)) ++ M := by
    rw [List.set_append, if_pos hpl]
  rw [hset]
  have hl2 : (L1.set p (some (.loop .busy none n l ps assign body))).length = L1.length := List.length_set
  have hup : (L1.set p (some (.loop .busy none n l ps assign body))).all (oUpto (L1.set p (some (.loop .busy none n l ps assign body))).length) = true := by
    rw [hl2, List.all_eq_true]
    intro o ho
    rcases List.mem_or_eq_of_mem_set ho with ho | rfl
    · exact List.all_eq_true.1 hL o ho
    · have h0 := List.all_eq_true.1 hL _ (List.mem_of_getElem? hp)
      exact h0
  have hq : ∀ x fr' L2, roundQ p (fun e L'' => e = .ret (.bool b) ∧ L'' = L') x fr' L2 → L2.length = L'.length := by
    intro x fr' L2 h
    unfold roundQ at h
    split at h
    · cases x <;> first | (have h2 := congrArg List.length h.2; simpa using h2) | exact h.elim
    · exact h.elim
  have hb' := Tw.frameM (fr := ⟨n, l1⟩) M (fun x fr' L2 h => by rw [hl2, ← hlen]; exact hq x fr' L2 h) (by rw [hl2]; exact hfr1) hup (by rw [hl2]; exact hb k)
  have hKK : (L1.set p (some (.loop .busy none n l ps assign body)) ++ M).length = (L1 ++ M).length := by simp
  rw [hKK] at hb'
  refine hb'.mono ?_
  rintro x fr' L'' ⟨L2, h, rfl⟩
  have hl3 := hq _ _ _ h
  have hp2 : p < L2.length := by omega
  unfold roundQ at h ⊢
  rw [List.getElem?_append_left hp2]
  split at h
  · rename_i hd
    simp only [hd]
    cases x <;> first | exact ⟨h.1, by rw [List.set_append, if_pos hp2, h.2]⟩ | exact h.elim
  · exact h.elim⟩
theorem YS.e0 {A : Ar} {T : TyOps} {P : Program} {L : Store} {p : Nat} {args : List AV} {b : Bool} {L' : Store} {R : AEnd → Store → Prop} (h : YS P L p args b L') (hT : T = tyOf P) (hR : R (.ret (.bool b)) L') : eyield A T P L p args R := by
  have := h.e (A := A) (R := R) [] hT (by rw [List.append_nil]; exact hR)
  rwa [List.append_nil] at this
theorem bleM : ∀ (K n : Nat), K ≤ n → (match K, n with | Nat.zero, _ => true | Nat.succ _, Nat.zero => false | Nat.succ a, Nat.succ b => Nat.ble a b) = true := by
  intro K n h
  cases K <;> cases n <;> simp at h ⊢ <;> omega
theorem Tw.of_ewpT {A : Ar} {T : TyOps} {P : Program} {r : Option Nat} {K : Nat} {c : Code} {Q : AEx → AFr → Store → Prop} {fr : AFr} {L : Store} (hT : T = tyOf P) (h : ewp A T P r K c Q fr L) : Tw P r K c Q fr L := by
  subst hT
  exact Tw.of_ewp _ _ _ _ h
theorem TW.pick {P : Program} {r : Option Nat} {K : Nat} {c : Code} {Q : AEx → AFr → Store → Prop} {fr : AFr} {L : Store} {n : Nat} {l : List (Nat × AV)} (hn : fr.n = n) (hl : SubL fr l) (h : TW P r K c Q ⟨n, l⟩ L) : TW P r K c Q fr L := ⟨Tw.vs (VS.pick hn hl) h.h⟩
theorem roundQ_ret {p : Nat} {R : AEnd → Store → Prop} {fr : AFr} {L : Store} {pend : Option Code} {n : Nat} {l : List (Nat × AV)} {ps : Array Tmp} {as bd : Code} (hp : L[p]? = some (some (.loop .busy pend n l ps as bd))) (h : R (.ret (.bool false)) (L.set p (some (.loop .done (some .ret) n l ps as bd)))) : roundQ p R .ret fr L := by
  unfold roundQ
  simp only [hp, Option.join_some]
  exact h
theorem roundQ_normal {p : Nat} {R : AEnd → Store → Prop} {fr : AFr} {L : Store} {pend : Option Code} {n : Nat} {l : List (Nat × AV)} {ps : Array Tmp} {as bd : Code} (hp : L[p]? = some (some (.loop .busy pend n l ps as bd))) (h : R (.ret (.bool true)) (L.set p (some (.loop .ready none n l ps as bd)))) : roundQ p R .normal fr L := by
  unfold roundQ
  simp only [hp, Option.join_some]
  exact h
theorem rangeQ_none {p : Nat} {fr : AFr} {Q : AEx → AFr → Store → Prop} {v : AV} {L : Store} {n : Nat} {l : List (Nat × AV)} {ps : Array Tmp} {as bd : Code} (hp : L[p]? = some (some (.loop .ready none n l ps as bd))) (h : Q .normal fr (L.set p none)) : rangeQ p fr Q (.ret v) L := by
  unfold rangeQ
  simp only [hp, Option.join_some]
  exact h
theorem rangeQ_ret {p : Nat} {fr : AFr} {Q : AEx → AFr → Store → Prop} {v : AV} {L : Store} {n : Nat} {l : List (Nat × AV)} {ps : Array Tmp} {as bd : Code} (hp : L[p]? = some (some (.loop .done (some .ret) n l ps as bd))) (h : Q .ret fr (L.set p none)) : rangeQ p fr Q (.ret v) L := by
  unfold rangeQ
  simp only [hp, Option.join_some]
  exact h
mutual
theorem AV.upto_le {n m : Nat} (h : n ≤ m) : ∀ a : AV, a.upto n = true → a.upto m = true
  | .ref p _ _ _, ha => by simp only [AV.upto, decide_eq_true_eq] at ha ⊢; omega
  | .row p _ _ _, ha => by simp only [AV.upto, decide_eq_true_eq] at ha ⊢; omega
  | .map p, ha => by simp only [AV.upto, decide_eq_true_eq] at ha ⊢; omega
  | .yield p, ha => by simp only [AV.upto, decide_eq_true_eq] at ha ⊢; omega
  | .imm cs, ha => by simp only [AV.upto] at ha ⊢; exact uptoL_le h cs ha
  | .sl _ es, ha => by simp only [AV.upto] at ha ⊢; exact uptoL_le h es ha
  | .slt _ es, ha => by simp only [AV.upto] at ha ⊢; exact uptoL_le h es ha
  | .agg cs, ha => by simp only [AV.upto] at ha ⊢; exact uptoL_le h cs ha
  | .tup cs, ha => by simp only [AV.upto] at ha ⊢; exact uptoL_le h cs ha
  | .func _ a b, ha => by simp only [AV.upto, Bool.and_eq_true] at ha ⊢; exact ⟨uptoL_le h a ha.1, uptoL_le h b ha.2⟩
  | .ifc _ v, ha => by simp only [AV.upto] at ha ⊢; exact AV.upto_le h v ha
  | .any, _ => rfl
  | .int _ _, _ => rfl
  | .bool _, _ => rfl
  | .str _, _ => rfl
  | .nil, _ => rfl
  | .nils, _ => rfl
  | .nilf, _ => rfl
  | .raw _, _ => rfl
theorem uptoL_le {n m : Nat} (h : n ≤ m) : ∀ l : List AV, uptoL n l = true → uptoL m l = true
  | [], _ => rfl
  | a :: l, ha => by simp only [uptoL, Bool.and_eq_true] at ha ⊢; exact ⟨AV.upto_le h a ha.1, uptoL_le h l ha.2⟩
end
theorem oUpto_le {n m : Nat} (h : n ≤ m) {o : Option AO} (ho : oUpto n o = true) : oUpto m o = true := by
  cases o with
  | none => rfl
  | some o =>
    cases o with
    | arr _ els => exact uptoL_le h els ho
    | box _ e => exact AV.upto_le h e ho
    | mp _ es =>
      simp only [oUpto, AO.upto, List.all_eq_true, Bool.and_eq_true] at ho ⊢
      exact fun x hx => ⟨AV.upto_le h _ (ho x hx).1, AV.upto_le h _ (ho x hx).2⟩
    | it p _ _ _ => simp only [oUpto, AO.upto, decide_eq_true_eq] at ho ⊢; omega
    | loop _ _ _ l _ _ _ =>
      simp only [oUpto, AO.upto, List.all_eq_true] at ho ⊢
      exact fun x hx => AV.upto_le h _ (ho x hx)
theorem YS.get {P : Program} {L : Store} {p : Nat} {args : List AV} {b : Bool} {L' : Store} (h : YS P L p args b L') : ∃ n l ps ac bd, L[p]? = some (some (.loop .ready none n l ps ac bd)) ∧ (ps.size == args.length) = true ∧
    ∀ {A : Ar} {T : TyOps} {R : AEnd → Store → Prop}, T = tyOf P → R (.ret (.bool b)) L' → YW A T P L p (aputs (ps.toList.zip args) ⟨n, l⟩) ac bd R := by
  have hy := h.h []
  rw [List.append_nil] at hy
  unfold ayield at hy
  split at hy
  · rename_i n l ps ac bd hL
    refine ⟨n, l, ps, ac, bd, oneat hL, by simpa using hy.1, fun {A T R} hT hR => ?_⟩
    have := h.e0 (A := A) (T := T) (R := R) hT hR
    unfold eyield at this
    simp only [hL] at this
    exact (chk_iff.1 this).2
  · exact hy.elim
theorem lenM : ∀ (L : Store) {K : Nat}, L.length = K → K ≤ (match L with | [] => 0 | _ :: l => l.length + 1) := by
  intro L K h
  cases L <;> simp at h ⊢ <;> omega
theorem TC.mono {P : Program} {f : FuncId} {args : List AV} {L : Store} {R R' : AEnd → Store → Prop} (h : TC P f args L R) (hr : ∀ x L, R x L → R' x L) : TC P f args L R' := ⟨h.h.mono hr⟩
theorem YS.getM {P : Program} {L : Store} {p : Nat} {args : List AV} {b : Bool} {L' : Store} (h : YS P L p args b L') (M : Store) {L2 : Store} (h2 : L2 = L ++ M) : ∃ n l ps ac bd, L2[p]? = some (some (.loop .ready none n l ps ac bd)) ∧ (ps.size == args.length) = true ∧
    ∀ {A : Ar} {T : TyOps} {R : AEnd → Store → Prop}, T = tyOf P → R (.ret (.bool b)) (L' ++ M) → YW A T P L2 p (aputs (ps.toList.zip args) ⟨n, l⟩) ac bd R := by
  subst h2
  have hy := h.h M
  unfold ayield at hy
  split at hy
  · rename_i n l ps ac bd hL
    refine ⟨n, l, ps, ac, bd, oneat hL, by simpa using hy.1, fun {A T R} hT hR => ?_⟩
    have := h.e (A := A) (T := T) (R := R) M hT hR
    unfold eyield at this
    simp only [hL] at this
    exact (chk_iff.1 this).2
  · exact hy.elim
theorem EW.trunc {A : Ar} {T : TyOps} {P : Program} {r : Option Nat} {K : Nat} {c : Code} {Q : AEx → AFr → Store → Prop} {fr : AFr} {L : Store} (o : Option AO) (hK : K ≤ L.length) (hf : fr.l.all (fun x => x.2.upto L.length) = true) (hL : L.all (oUpto L.length) = true) (h : EW A T P r K c Q fr L) : EW A T P r K c Q fr (L ++ [o]) := ⟨fun hT => by
  have ht : (L ++ [o]).take L.length = L := by simp
  have := VS.trunc (K := K) (fr := fr) (L := L ++ [o]) L.length hK hf (by rw [ht]; exact hL)
  rw [ht] at this
  exact Tw.vs this (h.h hT)⟩
theorem last_get (L : Store) (o : Option AO) {K : Nat} (h : L.length = K) : (L ++ [o])[K]? = some o := by subst h; simp
theorem last_set (L : Store) (o o' : Option AO) {K : Nat} (h : L.length = K) : (L ++ [o]).set K o' = L ++ [o'] := by subst h; simp
/-- A round of a loop whose record lies last: its body leaves what lies ahead as it will. -/
theorem YS.nest {P : Program} {B B' : Store} {K : Nat} {args : List AV} {b : Bool} {o' : Option AO} {n : Nat} {l l1 : List (Nat × AV)} {ps : Array Tmp} {ac bd : Code} (hK : B.length = K) (hK' : B'.length = K) (hps : ps.size = args.length)
    (hB : B.all (oUpto K) = true) (hl : l.all (fun x => x.2.upto (K + 1)) = true) (hfr : (aputs (ps.toList.zip args) ⟨n, l⟩).l.all (fun x => x.2.upto (K + 1)) = true) (hfr1 : l1.all (fun x => x.2.upto (K + 1)) = true)
    (ho : o' = match b with | true => some (.loop .ready none n l ps ac bd) | false => some (.loop .done (some .ret) n l ps ac bd))
    (ha : ∀ k L2, L2 = B ++ [some (.loop .ready none n l ps ac bd)] → Tw P (some k) (K + 1) ac (fun x fr L1 => x = .normal ∧ fr = ⟨n, l1⟩ ∧ L1 = L2) (aputs (ps.toList.zip args) ⟨n, l⟩) L2)
    (hb : ∀ k L2 L3 Q M, L2 = B ++ M → L3 = B' ++ M → L2.length = K + 1 → L3.length = K + 1 → (b = true → ∀ fr, Q .normal fr L3) → (b = false → ∀ fr, Q .ret fr L3) → Tw P (some k) (K + 1) bd Q ⟨n, l1⟩ L2) :
    YS P (B ++ [some (.loop .ready none n l ps ac bd)]) K args b (B' ++ [o']) := by
  have hlen : (B ++ [some (AO.loop .ready none n l ps ac bd)]).length = K + 1 := by simp [hK]
  refine YS.of (l1 := l1) (last_get _ _ hK) hps (by simp [hK, hK']) ?_ (by rw [hlen]; exact hfr) (by rw [hlen]; exact hfr1) (fun k => by rw [hlen]; exact ha k _ rfl) (fun k => ?_)
  · rw [hlen, List.all_append, Bool.and_eq_true]
    refine ⟨List.all_eq_true.2 fun o h => oUpto_le (Nat.le_succ _) (List.all_eq_true.1 hB o h), ?_⟩
    simp only [List.all_cons, List.all_nil, Bool.and_true, oUpto, AO.upto]
    exact hl
  · rw [hlen, last_set _ _ _ hK]
    refine hb k _ _ _ _ rfl rfl (by simp [hK]) (by simp [hK']) (fun h fr => ?_) (fun h fr => ?_)
    · subst h ho
      refine roundQ_normal (last_get _ _ hK') ⟨rfl, last_set _ _ _ hK'⟩
    · subst h ho
      refine roundQ_ret (last_get _ _ hK') ⟨rfl, last_set _ _ _ hK'⟩
end Go.Proofs.Ytaieiigfheabfaa.Tw
