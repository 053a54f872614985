import Derived.Test.YtpjibokaeefhiaaTwU
/-! Regions that draw their order, in which new cells are laid and filled, in one order among themselves. -/
namespace Go.Proofs.Ytpjibokaeefhiaa.Tw
open Go.RowKit
set_option linter.unusedVariables false
set_option linter.unusedSimpArgs false
section
variable {P : Program} {r : Option Nat} {K : Nat} {ops : Array Oper} {L : Store} {z : Nat} {Z : AFr → Prop} {ph : List (Nat × Store)}
def Mof (ph : List (Nat × Store)) : Nat → Store
  | 0 => []
  | j + 1 => ((ph[j]?).map (·.2)).getD []
def phAt (ph : List (Nat × Store)) (j : Nat) : Option Nat := (ph[j]?).map (·.1)
def waitB (ops : Array Oper) (k i : Nat) : Bool := (clos ops k (deps ops k)).contains i
theorem wait_listed {listed : Array Bool} {k i : Nat} (hB : waitB ops k i = true) (hc : Closed ops listed) (h : k ∈ Region.ready .any ops listed) : listed.getD i false = true :=
  clos_listed hc k _ (deps_ready h) i (by simpa [waitB] using hB)
/-- One of the operations that lay and fill. -/
def PhOp (P : Program) (r : Option Nat) (K : Nat) (ops : Array Oper) (L : Store) (o : Oper) (fr : AFr) (v : AV) (M M' : Store) : Prop :=
  o.guard = none ∧ OpTw P r K o (fun av L' => av = v ∧ L' = L ++ M') (fun _ _ _ => False) (frOn (o.looksAt ops) fr) (L ++ M)
def YP (P : Program) (r : Option Nat) (K : Nat) (ops : Array Oper) (L : Store) (ph : List (Nat × Store)) (i : Nat) (o : Oper) (fr : AFr) (v : AV) : Prop :=
  (∃ j, phAt ph j = some i ∧ PhOp P r K ops L o fr v (Mof ph j) (Mof ph (j + 1))) ∨ ((∀ j, phAt ph j ≠ some i) ∧ AYA P r K ops L o fr v)
theorem OpTw.feq {o : Oper} {N : AV → Store → Prop} {E : AEx → AFr → Store → Prop} {fr fr' : AFr} {L : Store} (e : FEq fr' fr) (h : OpTw P r K o N E fr L) : OpTw P r K o N E fr' L :=
  fun S a w I ρ h1 h2 h3 => h S a w I ρ h1 (e.rep h2) h3
theorem frOn_feq {S : List Nat} {fr fr' : AFr} (hn : fr.n = fr'.n) (h : ∀ t, t ∈ S → aget fr t = aget fr' t) : FEq (frOn S fr') (frOn S fr) := ⟨hn.symm, fun t => by
  rw [aget_frOn, aget_frOn]
  split
  · rename_i ht; exact (h t ht).symm
  · rfl⟩
theorem YP.congr (i : Nat) (o : Oper) (fr fr' : AFr) (v : AV) (hn : fr.n = fr'.n) (h : ∀ t, t ∈ o.looksAt ops → aget fr t = aget fr' t) (hy : YP P r K ops L ph i o fr v) : YP P r K ops L ph i o fr' v :=
  hy.imp (fun ⟨j, a, g, b⟩ => ⟨j, a, g, b.feq (frOn_feq hn h)⟩) fun ⟨a, b⟩ => ⟨a, fun M => (b M).congr hn h⟩
structure PhOk (ops : Array Oper) (z : Nat) (ph : List (Nat × Store)) : Prop where
  lt : ∀ j i, phAt ph j = some i → i < z
  inj : ∀ j j' i, phAt ph j = some i → phAt ph j' = some i → j = j'
  wait : ∀ j i i', phAt ph j = some i → phAt ph (j + 1) = some i' → waitB ops i' i = true
theorem anyP_sound {Q' : Exit → Act → World → Prop} {w0 : World} {I0 : Nat → Prop} {ρ : List Nat} {a0 : Act} {oz : Oper} (hB : tailB ops z = true) (hp : PhOk ops z ph) (hoz : ops[z]? = some oz) (hgz : oz.guard = none) (S : Nat) (hd0 : DefOk S w0 I0 a0.defers)
    (hZ : ∀ fr a w I ρ1 (nx : Act → World → Prop), Z fr → Rel w I ρ1 (L ++ Mof ph ph.length) → RepF w I ρ1 a.tmps fr → Le w0 I0 ρ w I ρ1 → Ev K w0 I0 ρ L w I ρ1 (L ++ Mof ph ph.length) → a.tmps.size = a0.tmps.size → a.defers = a0.defers → (∀ a w, Q' .normal a w → nx a w) → oz.wpIn (Fen r) 0 P a w nx Q') :
    ∀ (fuel : Nat) (listed : Array Bool) (fr : AFr) (a : Act) (w : World) (I : Nat → Prop) (c : Nat) (ρ1 : List Nat), Closed ops listed → a.tmps.size = a0.tmps.size → a.defers = a0.defers →
      c ≤ ph.length → (∀ j i, phAt ph j = some i → (listed.getD i false = true ↔ j < c)) → Rel w I ρ1 (L ++ Mof ph c) → RepF w I ρ1 a.tmps fr → Le w0 I0 ρ w I ρ1 → Ev K w0 I0 ρ L w I ρ1 (L ++ Mof ph c) →
      anyV ops z Z (YP P r K ops L ph) fuel listed fr → wpAnyIn (Fen r) 0 P .any ops Q' fuel listed a w
  | 0, listed, fr, a, w, I, c, ρ1, hc, h5, h6, hcl, hci, s1, s2, s3, s4, h => h.elim
  | fuel + 1, listed, fr, a, w, I, c, ρ1, hc, h5, h6, hcl, hci, s1, s2, s3, s4, h => by
    refine ⟨fun e => absurd e h.1, fun i hi => ?_⟩
    have hput : ∀ (d : Option Tmp) (u : Value), (a.put d u).defers = a0.defers := fun d u => (by cases d <;> rfl : (a.put d u).defers = a.defers).trans h6
    rcases h.2 i hi with ⟨rfl, he, hz⟩ | ⟨_, o, v, ho, hy, hn⟩
    · have hce : c = ph.length := by
        rcases Nat.lt_or_ge c ph.length with h' | h'
        · exfalso
          have hsome : phAt ph c = some (ph[c]'(h')).1 := by simp [phAt, h']
          have hl := tail_last hB hc hi _ (hp.lt c _ hsome)
          exact absurd ((hci c _ hsome).1 hl) (Nat.lt_irrefl _)
        · omega
      subst hce
      unfold wpOpIn
      simp only [hoz]
      rw [if_pos (by unfold Region.wanted; simp [hgz])]
      refine hZ fr a w I ρ1 _ hz s1 s2 s3 s4 h5 h6 (fun a w hq => ?_)
      cases fuel with
      | zero => exact ⟨he, hq⟩
      | succ fuel => exact ⟨fun _ => hq, fun j hj => by rw [he] at hj; cases hj⟩
    · unfold wpOpIn
      simp only [ho]
      have hself : ∀ j, j ≠ i → (listed.setIfInBounds i true).getD j false = listed.getD j false := fun j hj => getD_set_ne false (Ne.symm hj)
      have hun := (mem_ready.1 hi).1
      have hlt : i < listed.size := by
        rcases Nat.lt_or_ge i listed.size with h' | h'
        · exact h'
        · simp [Array.getElem?_eq_none h'] at hun
      have hunf : listed.getD i false = false := by simp [hlt] at hun ⊢; exact hun
      rcases hy with ⟨j, hj, hg, hop⟩ | ⟨hne, hy⟩
      · have hjc : j = c := by
          have h1 : ¬ j < c := fun h' => by have := (hci j i hj).2 h'; rw [hunf] at this; cases this
          cases j with
          | zero => omega
          | succ j =>
            have hjl : j + 1 < ph.length := by
              simp only [phAt, Option.map_eq_some_iff] at hj
              obtain ⟨x, hx, _⟩ := hj
              exact (List.getElem?_eq_some_iff.1 hx).1
            have hsome : phAt ph j = some (ph[j]'(by omega)).1 := by simp [phAt, show j < ph.length from by omega]
            have hl := wait_listed (hp.wait j _ i hsome hj) hc hi
            have := (hci j _ hsome).1 hl
            omega
        subst hjc
        rw [if_pos (by unfold Region.wanted; simp [hg])]
        have hjl : j < ph.length := by
          simp only [phAt, Option.map_eq_some_iff] at hj
          obtain ⟨x, hx, _⟩ := hj
          exact (List.getElem?_eq_some_iff.1 hx).1
        have := hop S a w I ρ1 s1 ⟨s2.1, fun t => by rw [aget_frOn]; split; exact s2.2 t; exact .any _⟩ (h6 ▸ hd0.mono s3 s4.size) _ (fun u av L' w' I' ρ' ⟨e1, e2⟩ r1 r2 r3 r4 => by
          subst e1 e2
          obtain ⟨p1, p2⟩ := put_repF (s2.mono r3) r2 o.dst
          exact anyP_sound hB hp hoz hgz S hd0 hZ fuel _ _ _ w' I' (j + 1) ρ' (hc.set hi) (p2.trans h5) (hput ..) hjl (fun j' i' hj' => by
            by_cases e : i' = i
            · subst e
              have := hp.inj j' j i' hj' hj
              subst this
              simp [hlt]
            · rw [hself i' e, hci j' i' hj']
              have : j' ≠ j := fun e' => by subst e'; rw [hj] at hj'; exact e (Option.some.inj hj').symm
              omega) r1 p1 (s3.trans r3) (s4.trans r4) hn)
        exact oper_swap (fun e a' w' hp => by obtain ⟨x, fr', L', I', ρ', hx, q, _⟩ := hp; exact q) this
      · refine hy (Mof ph c) S a w I ρ1 _ Q' s1 ⟨s2.1, fun t => by rw [aget_frOn]; split; exact s2.2 t; exact .any _⟩ (h6 ▸ hd0.mono s3 s4.size) (fun u w' I' r1 r2 r3 r4 => ?_)
        obtain ⟨p1, p2⟩ := put_repF (s2.mono r3) r2 o.dst
        exact anyP_sound hB hp hoz hgz S hd0 hZ fuel _ _ _ w' I' c ρ1 (hc.set hi) (p2.trans h5) (hput ..) hcl (fun j' i' hj' => by
          rw [hself i' (fun e => hne j' (e ▸ hj'))]
          exact hci j' i' hj') r1 p1 (s3.trans r3) (s4.trans r4) hn
theorem Tw.drawP {id : Nat} {Q : AEx → AFr → Store → Prop} {fr : AFr} {oz : Oper} (hm : P.follows .mixedOrders = true) (hB : Region.lexB .any ops = true) (hT : tailB ops z = true) (hp : PhOk ops z ph) (hz : z + 1 = ops.size) (hoz : ops[z]? = some oz) (hgz : oz.guard = none)
    (h : lexV (lastT P r K (L ++ Mof ph ph.length) oz Q) (YP P r K ops L ph) 0 (ops.toList.take z) fr) : Tw P r K (.region id ops true) Q fr L := by
  intro S a w I ρ h1 h2 h3
  simp only [Region.lexB, Bool.and_eq_true] at hB
  have hlen : (ops.toList.take z).length = z := by simp; omega
  have hrep : ∀ k, (Array.replicate ops.size false).getD k false = false := fun k => by
    rcases Nat.lt_or_ge k ops.size with h' | h'
    · simp [h']
    · simp [h']
  have hcl : Closed ops (Array.replicate ops.size false) := fun k i hk => by rw [hrep] at hk; cases hk
  have hany := anyV_lex (Y := YP P r K ops L ph) (Z := lastT P r K (L ++ Mof ph ph.length) oz Q) (fun i o fr fr' v hn ht hy => YP.congr i o fr fr' v hn ht hy) (fun fr fr' e ⟨f2, e2, q⟩ => ⟨f2, e.symm.trans e2, q⟩) hT hz (ops.toList.take z) 0 (Array.replicate ops.size false) fr (by omega)
    (fun j hj => by rw [hlen] at hj; simp [hj]) hcl (fun i hi => by omega) (by rw [hlen, hz]; exact hB.2) h
  refine wpIn_region_any hm ?_
  obtain ⟨d1, d2, d3⟩ := drewN_rel (K := K) (w := w) (w' := { w with drawn := w.drawn + 1 }) rfl rfl rfl rfl h1
  have := anyP_sound (P := P) (r := r) (K := K) (ops := ops) (L := L) (w0 := w) (I0 := I) (ρ := ρ) (a0 := a) (Q' := Post S K Q a w I ρ L) hT hp hoz hgz S h3 (fun fr' a' w' I' ρ1 nx ⟨f2, e2, q⟩ r1 r2 r3 r4 r5 r6 hnx => by
      have hop := q S a' w' I' ρ1 r1 (e2.rep r2) (by rw [r6]; exact h3.mono r3 r4.size) nx (fun v av L2 w2 I2 ρ2 hN s1 s2 s3 s4 => by
        obtain ⟨hp1, hp2⟩ := put_repF ((e2.rep r2).mono s3) s2 oz.dst
        refine hnx _ _ ⟨.normal, _, L2, I2, ρ2, trivial, hN, s1, hp1, ?_, r4.trans s4, hp2.trans r5⟩
        have : (a'.put oz.dst v).defers = a.defers := (by cases oz.dst <;> rfl : (a'.put oz.dst v).defers = a'.defers).trans r6
        rw [this]
        exact h3.mono (r3.trans s3) (Nat.le_trans r4.size s4.size))
      exact oper_post (fun e a1 w1 hp => Post.behind r4 r5 hp) hop)
    (ops.toList.take z).length.succ (Array.replicate ops.size false) fr a _ I 0 ρ hcl rfl rfl (Nat.zero_le _) (fun j i hj => by rw [hrep]; simp) (by simpa [Mof] using d1) (h2.mono d2) d2 (by simpa [Mof] using d3) hany
  simpa [hlen, hz] using this
def adjB (ops : Array Oper) : List (Nat × Store) → Bool
  | x :: y :: l => waitB ops y.1 x.1 && Nat.blt x.1 y.1 && adjB ops (y :: l)
  | _ => true
theorem adj_lt : ∀ {ph : List (Nat × Store)}, adjB ops ph = true → ∀ (j d i i' : Nat), phAt ph j = some i → phAt ph (j + d + 1) = some i' → i < i'
  | [], _, j, d, i, i', h, _ => by simp [phAt] at h
  | [x], _, j, d, i, i', h, h' => by simp [phAt] at h'
  | x :: y :: l, hB, j, d, i, i', h, h' => by
    simp only [adjB, Bool.and_eq_true] at hB
    have h1 : x.1 < y.1 := Nat.le_of_ble_eq_true hB.1.2
    cases j with
    | zero =>
      simp [phAt] at h
      subst h
      cases d with
      | zero => simp [phAt] at h'; subst h'; exact h1
      | succ d => exact Nat.lt_trans h1 (adj_lt hB.2 0 d y.1 i' (by simp [phAt]) (by simpa [phAt] using h'))
    | succ j => exact adj_lt hB.2 j d i i' (by simpa [phAt] using h) (by rw [show j + 1 + d + 1 = (j + d + 1) + 1 from by omega] at h'; simpa [phAt] using h')
theorem adj_wait : ∀ {ph : List (Nat × Store)}, adjB ops ph = true → ∀ (j i i' : Nat), phAt ph j = some i → phAt ph (j + 1) = some i' → waitB ops i' i = true
  | [], _, j, i, i', h, _ => by simp [phAt] at h
  | [x], _, j, i, i', h, h' => by simp [phAt] at h'
  | x :: y :: l, hB, j, i, i', h, h' => by
    simp only [adjB, Bool.and_eq_true] at hB
    cases j with
    | zero => simp [phAt] at h h'; subst h h'; exact hB.1.1
    | succ j => exact adj_wait hB.2 j i i' (by simpa [phAt] using h) (by simpa [phAt] using h')
theorem phOk_of (h1 : (ph.all fun x => Nat.blt x.1 z) = true) (h2 : adjB ops ph = true) : PhOk ops z ph where
  lt j i h := by
    simp only [phAt, Option.map_eq_some_iff] at h
    obtain ⟨x, hx, rfl⟩ := h
    exact Nat.le_of_ble_eq_true (List.all_eq_true.1 h1 x (List.mem_of_getElem? hx))
  inj j j' i h h' := by
    rcases Nat.lt_trichotomy j j' with hlt | rfl | hlt
    · have := adj_lt h2 j (j' - j - 1) i i h (by rw [show j + (j' - j - 1) + 1 = j' from by omega]; exact h'); omega
    · rfl
    · have := adj_lt h2 j' (j - j' - 1) i i h' (by rw [show j' + (j - j' - 1) + 1 = j from by omega]; exact h); omega
  wait j i i' h h' := adj_wait h2 j i i' h h'
def ephase (A : Ar) (T : TyOps) (P : Program) (K : Nat) (op : Op) (fr : AFr) (L : Store) (N : AV → Store → Prop) : Prop :=
  match op with
  | .box t x => ebox K L (aval fr x) N
  | .alloc t => ealloc T K L t N
  | .store t ad x => estore T L t (aval fr ad) (aval fr x) N
  | _ => False
theorem ephase_ok {A : Ar} {o : Oper} {fr : AFr} {N : AV → Store → Prop} (h : ephase A (tyOf P) P K o.op fr L N) : ∃ av L', N av L' ∧ OpTw P r K o (fun av' L'' => av' = av ∧ L'' = L') (fun _ _ _ => False) (frOn (o.looksAt ops) fr) L := by
  have hmem : ∀ x ∈ o.op.operands, aval fr x = aval (frOn (o.looksAt ops) fr) x := fun x hx => aval_frOn x hx
  have fin : (∀ c, o.op ≠ .defer c) → WOk P K L (fun a w => (execOp a.eval o).run P w) (frOn (o.looksAt ops) fr) N → ∃ av L', N av L' ∧ OpTw P r K o (fun av' L'' => av' = av ∧ L'' = L') (fun _ _ _ => False) (frOn (o.looksAt ops) fr) L :=
    fun hd ⟨av, L', hN, hr⟩ => ⟨av, L', hN, opTw_value hd ⟨av, L', ⟨rfl, rfl⟩, hr⟩⟩
  unfold ephase at h
  split at h
  · rename_i t x ho
    rw [hmem x (by rw [ho]; simp [Op.operands])] at h
    exact fin (by rw [ho]; intro c h; cases h) (abox_ok ho (ebox_ok h))
  · rename_i t ho
    exact fin (by rw [ho]; intro c h; cases h) (aalloc_ok ho (ealloc_ok h))
  · rename_i t ad x ho
    rw [hmem x (by rw [ho]; simp [Op.operands]), hmem ad (by rw [ho]; simp [Op.operands])] at h
    exact fin (by rw [ho]; intro c h; cases h) (astore_ok ho (estore_ok h))
  · exact h.elim
/-- Reckoned out. -/
def eqopsF (A : Ar) (T : TyOps) (P : Program) (K : Nat) (L : Store) (full : List (Nat × Store)) (Zt : AFr → Prop) : Store → List (Nat × Store) → Nat → List Oper → AFr → Prop
  | _, _, _, [], fr => Zt fr
  | M, [], k, o :: rest, fr => match o.guard with
    | none => chk (full.all fun x => !Nat.beq x.1 k) (eqopP A T P o.op fr L fun av => eqopsF A T P K L full Zt M [] (k + 1) rest (aputf o.dst av fr))
    | some _ => False
  | M, (i, M') :: ph', k, o :: rest, fr => match o.guard with
    | none => match Nat.beq k i with
      | true => ephase A T P K o.op fr (L ++ M) fun av L' => Nd (fun _ => L' = L ++ M') (eqopsF A T P K L full Zt M' ph' (k + 1) rest (aputf o.dst av fr))
      | false => chk (full.all fun x => !Nat.beq x.1 k) (eqopP A T P o.op fr L fun av => eqopsF A T P K L full Zt M ((i, M') :: ph') (k + 1) rest (aputf o.dst av fr))
    | some _ => False
theorem notPh {k : Nat} (h : (ph.all fun x => !Nat.beq x.1 k) = true) : ∀ j, phAt ph j ≠ some k := fun j hj => by
  simp only [phAt, Option.map_eq_some_iff] at hj
  obtain ⟨x, hx, rfl⟩ := hj
  have := List.all_eq_true.1 h x (List.mem_of_getElem? hx)
  simp at this
theorem eqopsF_ok {A : Ar} {Zt : AFr → Prop} (hK : K ≤ L.length) : ∀ (l : List Oper) (pre ph' : List (Nat × Store)) (k : Nat) (fr : AFr), ph = pre ++ ph' → eqopsF A (tyOf P) P K L ph Zt (Mof ph pre.length) ph' k l fr → lexV Zt (YP P r K ops L ph) k l fr
  | [], pre, [], _, _, _, h => h
  | [], pre, _ :: _, _, _, _, h => h
  | o :: rest, pre, [], k, fr, e, h => by
    simp only [eqopsF] at h
    split at h
    · rename_i hg
      obtain ⟨h1, h⟩ := chk_iff.1 h
      obtain ⟨v, hy, hN⟩ := eqopP_ok (r := r) (ops := ops) hK (fun a w I ρ _ => by unfold Region.wanted; simp [hg]) h
      exact ⟨v, .inr ⟨notPh h1, hy⟩, eqopsF_ok hK rest pre [] (k + 1) _ e hN⟩
    · exact h.elim
  | o :: rest, pre, (i, M') :: ph', k, fr, e, h => by
    simp only [eqopsF] at h
    split at h
    · rename_i hg
      split at h
      · rename_i hk
        obtain ⟨av, L', ⟨hL, hN⟩, hop⟩ := ephase_ok (r := r) (ops := ops) h
        subst hL
        have hat : ph[pre.length]? = some (i, M') := by rw [e]; simp
        have hM : Mof ph (pre.length + 1) = M' := by simp [Mof, hat]
        refine ⟨av, .inl ⟨pre.length, by simp [phAt, hat, Nat.eq_of_beq_eq_true hk], hg, by rw [hM]; exact hop⟩, eqopsF_ok hK rest (pre ++ [(i, M')]) ph' (k + 1) _ (by rw [e]; simp) (by simpa [hM] using hN)⟩
      · obtain ⟨h1, h⟩ := chk_iff.1 h
        obtain ⟨v, hy, hN⟩ := eqopP_ok (r := r) (ops := ops) hK (fun a w I ρ _ => by unfold Region.wanted; simp [hg]) h
        exact ⟨v, .inr ⟨notPh h1, hy⟩, eqopsF_ok hK rest pre _ (k + 1) _ e hN⟩
    · exact h.elim
/-- A region that draws its order: new cells are laid and filled (ph: which operations, and what there is behind them), the rest is quiet, the last waits for all. -/
theorem TW.drawP {A : Ar} {T : TyOps} {id : Nat} {Q : AEx → AFr → Store → Prop} {fr : AFr} {oz : Oper} (ph : List (Nat × Store)) (hT : T = tyOf P) (hm : P.follows .mixedOrders = true) (hB : Region.lexB .any ops = true) (hz : z + 1 = ops.size) (hTl : tailB ops z = true) (hp1 : (ph.all fun x => Nat.blt x.1 z) = true) (hp2 : adjB ops ph = true) (hoz : ops[z]? = some oz) (hgz : oz.guard = none) (hK : Nat.ble K L.length = true)
    (h : eqopsF A T P K L ph (fun fr' => erop A T P K oz.op fr' (L ++ Mof ph ph.length) (fun av L' => Q .normal (aputf oz.dst av fr') L') Q) [] ph 0 (ops.toList.take z) fr) : TW P r K (.region id ops true) Q fr L := by
  subst hT
  refine ⟨Tw.drawP hm hB hTl (phOk_of hp1 hp2) hz hoz hgz ?_⟩
  exact lexV.mono (fun fr q => ⟨fr, ⟨rfl, fun _ => rfl⟩, rop_ok (erop_ok q)⟩) _ _ _ (eqopsF_ok (by simpa using hK) _ [] ph 0 fr (by simp) h)
end
end Go.Proofs.Ytpjibokaeefhiaa.Tw
