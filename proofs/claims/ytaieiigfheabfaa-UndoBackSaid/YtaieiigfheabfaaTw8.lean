import Derived.Test.YtaieiigfheabfaaTw7
/-! Regions that draw their order, in which calls change what there is, one behind the other; what waits for the last of them reads what came. -/
namespace Go.Proofs.Ytaieiigfheabfaa.Tw
open Go.RowKit
set_option linter.unusedVariables false
set_option linter.unusedSimpArgs false
section
variable {P : Program} {r : Option Nat} {K : Nat} {ops : Array Oper} {L M0 : Store} {z : Nat} {Z : AFr → Prop} {ph : List (Nat × Store)}
def MofC (M0 : Store) (ph : List (Nat × Store)) : Nat → Store
  | 0 => M0
  | j + 1 => ((ph[j]?).map (·.2)).getD []
def lastW (ops : Array Oper) (ph : List (Nat × Store)) (i : Nat) : Prop := ∀ il, phAt ph (ph.length - 1) = some il → waitB ops i il = true
/-- Quiet in front of whatever there is, if that has what came in. -/
def AYK (P : Program) (r : Option Nat) (K : Nat) (ops : Array Oper) (L : Store) (o : Oper) (fr : AFr) (v : AV) : Prop := ∀ M : Store, K ≤ (L ++ M).length → AY P r K ops (L ++ M) o fr v
theorem eqopP_okK {A : Ar} {o : Oper} {fr : AFr} (hw : ∀ (a : Act) (w : World) (I : Nat → Prop) (ρ : List Nat), RepF w I ρ a.tmps (frOn (o.looksAt ops) fr) → Region.wanted o (yielded ops a.tmps) = true)
    {N : AV → Prop} (h : eqopP A (tyOf P) P o.op fr L N) : ∃ v, AYK P r K ops L o fr v ∧ N v := by
  have fin : ∀ (v : AV), N v → (∀ M, eqop A (tyOf P) P o.op fr (L ++ M) (fun v' => v' = v)) → ∃ v, AYK P r K ops L o fr v ∧ N v := fun v hN hM => ⟨v, fun M hK => by
    obtain ⟨v', hy, rfl⟩ := eqop_ok (r := r) (ops := ops) (K := K) hK hw (hM M)
    exact hy, hN⟩
  have val : pop P L o (aval fr) N → ∃ v, AYK P r K ops L o fr v ∧ N v := fun h => by
    obtain ⟨v, hy, hN⟩ := ay_valA (r := r) (K := K) hw h
    exact ⟨v, fun M _ => hy M, hN⟩
  unfold eqopP at h
  split at h
  · rename_i t len parts ho
    unfold ebuildSlice at h
    split at h
    · rename_i e hu
      obtain ⟨h1, hN⟩ := chk_iff.1 h
      refine fin _ hN fun M => ?_
      unfold eqop
      simp only [ho]
      unfold ebuildSlice
      have hu' : P.underlying t = some (.slice e) := hu
      simp only [hu']
      exact chk_iff.2 ⟨h1, trivial⟩
    · exact h.elim
  · rename_i c ho
    split at h
    · rename_i f hc
      split at h
      · rename_i g first captured hf
        obtain ⟨h1, v, hp, hN⟩ := h
        refine fin v hN fun M => ?_
        unfold eqop
        simp only [ho, hc, hf]
        exact ⟨h1, v, ⟨hp.h.call hp.p ⟨rfl, rfl⟩⟩, rfl⟩
      · exact h.elim
    · exact val (epop_ok (A := A) (by rw [ho]; exact ho ▸ h))
  · exact val (epop_ok h)
def YC (P : Program) (r : Option Nat) (K : Nat) (ops : Array Oper) (L M0 : Store) (ph : List (Nat × Store)) (i : Nat) (o : Oper) (fr : AFr) (v : AV) : Prop :=
  (∃ j, phAt ph j = some i ∧ PhOp P r K ops L o fr v (MofC M0 ph j) (MofC M0 ph (j + 1))) ∨ ((∀ j, phAt ph j ≠ some i) ∧ AYK P r K ops L o fr v) ∨
    ((∀ j, phAt ph j ≠ some i) ∧ lastW ops ph i ∧ AY P r K ops (L ++ MofC M0 ph ph.length) o fr v)
theorem YC.congr (i : Nat) (o : Oper) (fr fr' : AFr) (v : AV) (hn : fr.n = fr'.n) (h : ∀ t, t ∈ o.looksAt ops → aget fr t = aget fr' t) (hy : YC P r K ops L M0 ph i o fr v) : YC P r K ops L M0 ph i o fr' v :=
  hy.imp (fun ⟨j, a, g, b⟩ => ⟨j, a, g, b.feq (frOn_feq hn h)⟩) (Or.imp (fun ⟨a, b⟩ => ⟨a, fun M hK => (b M hK).congr hn h⟩) fun ⟨a, b, c⟩ => ⟨a, b, c.congr hn h⟩)
theorem anyC_sound {Q' : Exit → Act → World → Prop} {w0 : World} {I0 : Nat → Prop} {ρ : List Nat} {a0 : Act} {oz : Oper} (hB : tailB ops z = true) (hp : PhOk ops z ph) (hoz : ops[z]? = some oz) (hgz : oz.guard = none) (S : Base) (hd0 : DefOk S w0 I0 a0.defers) (hKM : ∀ c, c ≤ ph.length → K ≤ (L ++ MofC M0 ph c).length)
    (hZ : ∀ fr a w I ρ1 (nx : Act → World → Prop), Z fr → Rel w I ρ1 (L ++ MofC M0 ph ph.length) → RepF w I ρ1 a.tmps fr → Le w0 I0 ρ w I ρ1 → Ev K w0 I0 ρ (L ++ M0) w I ρ1 (L ++ MofC M0 ph ph.length) → a.tmps.size = a0.tmps.size → a.defers = a0.defers → (∀ a w, Q' .normal a w → nx a w) → oz.wpIn (Fen r) 0 P a w nx Q') :
    ∀ (fuel : Nat) (listed : Array Bool) (fr : AFr) (a : Act) (w : World) (I : Nat → Prop) (c : Nat) (ρ1 : List Nat), Closed ops listed → a.tmps.size = a0.tmps.size → a.defers = a0.defers →
      c ≤ ph.length → (∀ j i, phAt ph j = some i → (listed.getD i false = true ↔ j < c)) → Rel w I ρ1 (L ++ MofC M0 ph c) → RepF w I ρ1 a.tmps fr → Le w0 I0 ρ w I ρ1 → Ev K w0 I0 ρ (L ++ M0) w I ρ1 (L ++ MofC M0 ph c) →
      anyV ops z Z (YC P r K ops L M0 ph) fuel listed fr → wpAnyIn (Fen r) 0 P .any ops Q' fuel listed a w
  | 0, listed, fr, a, w, I, c, ρ1, hc, h5, h6, hcl, hci, s1, s2, s3, s4, h => h.elim
  | fuel + 1, listed, fr, a, w, I, c, ρ1, hc, h5, h6, hcl, hci, s1, s2, s3, s4, h => by
    refine ⟨fun e => absurd e h.1, fun i hi => ?_⟩
    have hput : ∀ (d : Option Tmp) (u : Value), (a.put d u).defers = a0.defers := fun d u => (by cases d <;> rfl : (a.put d u).defers = a.defers).trans h6
    rcases h.2 i hi with ⟨rfl, he, hz⟩ | ⟨_, o, v, ho, hy, hn⟩
    · have hce : c = ph.length := by
        rcases Nat.lt_or_ge c ph.length with h' | h'
        · exfalso
          have hsome : phAt ph c = some (ph[c]'(h')).1 := by simp [phAt, h']
          have hl := tail_last hB hc hi _ (hp.lt c _ hsome)
          exact absurd ((hci c _ hsome).1 hl) (Nat.lt_irrefl _)
        · omega
      subst hce
      unfold wpOpIn
      simp only [hoz]
      rw [if_pos (by unfold Region.wanted; simp [hgz])]
      refine hZ fr a w I ρ1 _ hz s1 s2 s3 s4 h5 h6 (fun a w hq => ?_)
      cases fuel with
      | zero => exact ⟨he, hq⟩
      | succ fuel => exact ⟨fun _ => hq, fun j hj => by rw [he] at hj; cases hj⟩
    · unfold wpOpIn
      simp only [ho]
      have hself : ∀ j, j ≠ i → (listed.setIfInBounds i true).getD j false = listed.getD j false := fun j hj => getD_set_ne false (Ne.symm hj)
      have hun := (mem_ready.1 hi).1
      have hlt : i < listed.size := by
        rcases Nat.lt_or_ge i listed.size with h' | h'
        · exact h'
        · simp [Array.getElem?_eq_none h'] at hun
      have hunf : listed.getD i false = false := by simp [hlt] at hun ⊢; exact hun
      rcases hy with ⟨j, hj, hg, hop⟩ | ⟨hne, hy⟩ | ⟨hne, hw, hy⟩
      · have hjc : j = c := by
          have h1 : ¬ j < c := fun h' => by have := (hci j i hj).2 h'; rw [hunf] at this; cases this
          cases j with
          | zero => omega
          | succ j =>
            have hjl : j + 1 < ph.length := by
              simp only [phAt, Option.map_eq_some_iff] at hj
              obtain ⟨x, hx, _⟩ := hj
              exact (List.getElem?_eq_some_iff.1 hx).1
            have hsome : phAt ph j = some (ph[j]'(by omega)).1 := by simp [phAt, show j < ph.length from by omega]
            have hl := wait_listed (hp.wait j _ i hsome hj) hc hi
            have := (hci j _ hsome).1 hl
            omega
        subst hjc
        rw [if_pos (by unfold Region.wanted; simp [hg])]
        have hjl : j < ph.length := by
          simp only [phAt, Option.map_eq_some_iff] at hj
          obtain ⟨x, hx, _⟩ := hj
          exact (List.getElem?_eq_some_iff.1 hx).1
        have := hop S a w I ρ1 s1 ⟨s2.1, fun t => by rw [aget_frOn]; split; exact s2.2 t; exact .any _⟩ (h6 ▸ hd0.mono s3 s4.size) _ (fun u av L' w' I' ρ' ⟨e1, e2⟩ r1 r2 r3 r4 => by
          subst e1 e2
          obtain ⟨p1, p2⟩ := put_repF (s2.mono r3) r2 o.dst
          exact anyC_sound hB hp hoz hgz S hd0 hKM hZ fuel _ _ _ w' I' (j + 1) ρ' (hc.set hi) (p2.trans h5) (hput ..) hjl (fun j' i' hj' => by
            by_cases e : i' = i
            · subst e
              have := hp.inj j' j i' hj' hj
              subst this
              simp [hlt]
            · rw [hself i' e, hci j' i' hj']
              have : j' ≠ j := fun e' => by subst e'; rw [hj] at hj'; exact e (Option.some.inj hj').symm
              omega) r1 p1 (s3.trans r3) (s4.trans r4) hn)
        exact oper_swap (fun e a' w' hp => by obtain ⟨x, fr', L', I', ρ', hx, q, _⟩ := hp; exact q) this
      · refine hy (MofC M0 ph c) (hKM c hcl) S a w I ρ1 _ Q' s1 ⟨s2.1, fun t => by rw [aget_frOn]; split; exact s2.2 t; exact .any _⟩ (h6 ▸ hd0.mono s3 s4.size) (fun u w' I' r1 r2 r3 r4 => ?_)
        obtain ⟨p1, p2⟩ := put_repF (s2.mono r3) r2 o.dst
        exact anyC_sound hB hp hoz hgz S hd0 hKM hZ fuel _ _ _ w' I' c ρ1 (hc.set hi) (p2.trans h5) (hput ..) hcl (fun j' i' hj' => by
          rw [hself i' (fun e => hne j' (e ▸ hj'))]
          exact hci j' i' hj') r1 p1 (s3.trans r3) (s4.trans r4) hn
      · have hce : c = ph.length := by
          rcases Nat.eq_zero_or_pos ph.length with h0 | h0
          · omega
          · have hsome : phAt ph (ph.length - 1) = some (ph[ph.length - 1]'(by omega)).1 := by simp [phAt, show ph.length - 1 < ph.length from by omega]
            have hl := wait_listed (hw _ hsome) hc hi
            have := (hci _ _ hsome).1 hl
            omega
        subst hce
        refine hy S a w I ρ1 _ Q' s1 ⟨s2.1, fun t => by rw [aget_frOn]; split; exact s2.2 t; exact .any _⟩ (h6 ▸ hd0.mono s3 s4.size) (fun u w' I' r1 r2 r3 r4 => ?_)
        obtain ⟨p1, p2⟩ := put_repF (s2.mono r3) r2 o.dst
        exact anyC_sound hB hp hoz hgz S hd0 hKM hZ fuel _ _ _ w' I' ph.length ρ1 (hc.set hi) (p2.trans h5) (hput ..) hcl (fun j' i' hj' => by
          rw [hself i' (fun e => hne j' (e ▸ hj'))]
          exact hci j' i' hj') r1 p1 (s3.trans r3) (s4.trans r4) hn
theorem Tw.drawC {id : Nat} {Q : AEx → AFr → Store → Prop} {fr : AFr} {oz : Oper} (hm : P.follows .mixedOrders = true) (hB : Region.lexB .any ops = true) (hT : tailB ops z = true) (hp : PhOk ops z ph) (hz : z + 1 = ops.size) (hoz : ops[z]? = some oz) (hgz : oz.guard = none) (hKM : ∀ c, c ≤ ph.length → K ≤ (L ++ MofC M0 ph c).length)
    (h : lexV (lastT P r K (L ++ MofC M0 ph ph.length) oz Q) (YC P r K ops L M0 ph) 0 (ops.toList.take z) fr) : Tw P r K (.region id ops true) Q fr (L ++ M0) := by
  intro S a w I ρ h1 h2 h3
  simp only [Region.lexB, Bool.and_eq_true] at hB
  have hlen : (ops.toList.take z).length = z := by simp; omega
  have hrep : ∀ k, (Array.replicate ops.size false).getD k false = false := fun k => by
    rcases Nat.lt_or_ge k ops.size with h' | h'
    · simp [h']
    · simp [h']
  have hcl : Closed ops (Array.replicate ops.size false) := fun k i hk => by rw [hrep] at hk; cases hk
  have hany := anyV_lex (Y := YC P r K ops L M0 ph) (Z := lastT P r K (L ++ MofC M0 ph ph.length) oz Q) (fun i o fr fr' v hn ht hy => YC.congr i o fr fr' v hn ht hy) (fun fr fr' e ⟨f2, e2, q⟩ => ⟨f2, e.symm.trans e2, q⟩) hT hz (ops.toList.take z) 0 (Array.replicate ops.size false) fr (by omega)
    (fun j hj => by rw [hlen] at hj; simp [hj]) hcl (fun i hi => by omega) (by rw [hlen, hz]; exact hB.2) h
  refine wpIn_region_any hm ?_
  obtain ⟨d1, d2, d3⟩ := drewN_rel (K := K) (w := w) (w' := { w with drawn := w.drawn + 1 }) rfl rfl rfl rfl h1
  have := anyC_sound (P := P) (r := r) (K := K) (ops := ops) (L := L) (M0 := M0) (w0 := w) (I0 := I) (ρ := ρ) (a0 := a) (Q' := Post S K Q a w I ρ (L ++ M0)) hT hp hoz hgz S h3 hKM (fun fr' a' w' I' ρ1 nx ⟨f2, e2, q⟩ r1 r2 r3 r4 r5 r6 hnx => by
      have hop := q S a' w' I' ρ1 r1 (e2.rep r2) (by rw [r6]; exact h3.mono r3 r4.size) nx (fun v av L2 w2 I2 ρ2 hN s1 s2 s3 s4 => by
        obtain ⟨hp1, hp2⟩ := put_repF ((e2.rep r2).mono s3) s2 oz.dst
        refine hnx _ _ ⟨.normal, _, L2, I2, ρ2, trivial, hN, s1, hp1, ?_, r4.trans s4, hp2.trans r5⟩
        have : (a'.put oz.dst v).defers = a.defers := (by cases oz.dst <;> rfl : (a'.put oz.dst v).defers = a'.defers).trans r6
        rw [this]
        exact h3.mono (r3.trans s3) (Nat.le_trans r4.size s4.size))
      exact oper_post (fun e a1 w1 hp => Post.behind r4 r5 hp) hop)
    (ops.toList.take z).length.succ (Array.replicate ops.size false) fr a _ I 0 ρ hcl rfl rfl (Nat.zero_le _) (fun j i hj => by rw [hrep]; simp) d1 (h2.mono d2) d2 d3 hany
  simpa [hlen, hz] using this
theorem lexV.congr {Y : Nat → Oper → AFr → AV → Prop} (hYc : ∀ (i : Nat) (o : Oper) (fr fr' : AFr) (v : AV), fr.n = fr'.n → (∀ t, t ∈ o.looksAt ops → aget fr t = aget fr' t) → Y i o fr v → Y i o fr' v) (hZ : ∀ fr fr', FEq fr fr' → Z fr → Z fr') :
    ∀ (k : Nat) (l : List Oper) (fr fr' : AFr), FEq fr fr' → lexV Z Y k l fr → lexV Z Y k l fr'
  | _, [], _, _, e, h => hZ _ _ e h
  | k, o :: l, fr, fr', e, ⟨v, hy, h⟩ => ⟨v, hYc _ _ _ _ _ e.1 (fun t _ => e.2 t) hy, lexV.congr hYc hZ (k + 1) l _ _ (e.put o.dst v) h⟩
/-- Up to what a frame says of each slot. -/
def ZF (Zt : AFr → Prop) (fr : AFr) : Prop := ∃ f2, FEq fr f2 ∧ Zt f2
theorem ZF.congr {Zt : AFr → Prop} (fr fr' : AFr) (e : FEq fr fr') : ZF Zt fr → ZF Zt fr' := fun ⟨f2, e2, q⟩ => ⟨f2, e.symm.trans e2, q⟩
def lastB (ops : Array Oper) (ph : List (Nat × Store)) (k : Nat) : Bool :=
  match ph.getLast? with
  | some x => waitB ops k x.1
  | none => true
theorem lastB_ok {k : Nat} (h : lastB ops ph k = true) : lastW ops ph k := fun il hil => by
  unfold lastB at h
  simp only [phAt, ← List.getLast?_eq_getElem?] at hil
  cases hl : ph.getLast? with
  | none => rw [hl] at hil; simp at hil
  | some x => rw [hl] at hil h; simp at hil; rw [← hil]; exact h
def eqopsC (A : Ar) (T : TyOps) (P : Program) (K : Nat) (ops : Array Oper) (L : Store) (full : List (Nat × Store)) (Zt : AFr → Prop) : Store → List (Nat × Store) → Nat → List Oper → AFr → Prop
  | _, _, _, [], fr => Zt fr
  | M, [], k, o :: rest, fr => chk (full.all fun x => !Nat.beq x.1 k) (match lastB ops full k with
    | true => match o.guard with
      | none => eqop A T P o.op fr (L ++ M) fun av => eqopsC A T P K ops L full Zt M [] (k + 1) rest (aputf o.dst av fr)
      | some (j, want) => match (ops[j]?).bind (·.dst) with
        | some d => chk (Nat.blt d fr.n) (match aget fr d with
          | .bool b => match b with
            | true => match want with
              | true => eqop A T P o.op (know d true fr) (L ++ M) fun av => eqopsC A T P K ops L full Zt M [] (k + 1) rest (aputf o.dst av (know d true fr))
              | false => eqopsC A T P K ops L full Zt M [] (k + 1) rest (aputf o.dst (.tup []) (know d true fr))
            | false => match want with
              | false => eqop A T P o.op (know d false fr) (L ++ M) fun av => eqopsC A T P K ops L full Zt M [] (k + 1) rest (aputf o.dst av (know d false fr))
              | true => eqopsC A T P K ops L full Zt M [] (k + 1) rest (aputf o.dst (.tup []) (know d false fr))
          | .tup [] => eqopsC A T P K ops L full Zt M [] (k + 1) rest (aputf o.dst (.tup []) fr)
          | _ => False)
        | none => False
    | false => match o.guard with
      | none => eqopP A T P o.op fr L fun av => eqopsC A T P K ops L full Zt M [] (k + 1) rest (aputf o.dst av fr)
      | some _ => False)
  | M, (i, M') :: ph', k, o :: rest, fr => match o.guard with
    | none => match Nat.beq k i with
      | true => ephase A T P K o.op fr (L ++ M) fun av L' => Nd (fun _ => L' = L ++ M') (eqopsC A T P K ops L full Zt M' ph' (k + 1) rest (aputf o.dst av fr))
      | false => chk (full.all fun x => !Nat.beq x.1 k) (eqopP A T P o.op fr L fun av => eqopsC A T P K ops L full Zt M ((i, M') :: ph') (k + 1) rest (aputf o.dst av fr))
    | some _ => False
theorem eqopsC_ok {A : Ar} {Zt : AFr → Prop} (hK : ∀ c, c ≤ ph.length → K ≤ (L ++ MofC M0 ph c).length) : ∀ (l : List Oper) (pre ph' : List (Nat × Store)) (k : Nat) (fr : AFr), ph = pre ++ ph' → eqopsC A (tyOf P) P K ops L ph Zt (MofC M0 ph pre.length) ph' k l fr → lexV (ZF Zt) (YC P r K ops L M0 ph) k l fr
  | [], pre, [], _, fr, _, h => ⟨fr, ⟨rfl, fun _ => rfl⟩, h⟩
  | [], pre, _ :: _, _, fr, _, h => ⟨fr, ⟨rfl, fun _ => rfl⟩, h⟩
  | o :: rest, pre, [], k, fr, e, h => by
    have hpre : ph = pre := by rw [e]; simp
    subst hpre
    simp only [eqopsC] at h
    obtain ⟨hnp, h⟩ := chk_iff.1 h
    have hK' : K ≤ (L ++ MofC M0 ph ph.length).length := hK _ (Nat.le_refl _)
    split at h
    · rename_i hlb
      have hlw := lastB_ok hlb
      have no : ∀ {j d : Nat} {want : Bool} {fr1 : AFr}, FEq fr fr1 → o.guard = some (j, want) → (ops[j]?).bind (·.dst) = some d → d < fr.n → (∀ b, aget fr d = .bool b → b ≠ want) → (aget fr d = .tup [] ∨ ∃ b, aget fr d = .bool b) → eqopsC A (tyOf P) P K ops L ph Zt (MofC M0 ph ph.length) [] (k + 1) rest (aputf o.dst (.tup []) fr1) → lexV (ZF Zt) (YC P r K ops L M0 ph) k (o :: rest) fr := by
        intro j d want fr1 hfe hg hd hlt hb hc h
        refine ⟨.tup [], .inr (.inr ⟨notPh hnp, hlw, ay_no fun a w I ρ hf => ?_⟩), lexV.congr (fun i o fr fr' v hn ht hy => YC.congr i o fr fr' v hn ht hy) ZF.congr _ _ _ _ (hfe.symm.put o.dst (.tup [])) (eqopsC_ok hK rest ph [] (k + 1) _ e h)⟩
        have := aguard_ok (ops := ops) (o := o) (yes := False) (no := True) (fr := frOn (o.looksAt ops) fr) (a := a) (w := w) (I := I) (ρ := ρ) (by
          unfold aguard
          simp only [hg, hd]
          refine ⟨hlt, ?_⟩
          rw [agetD_frOn hg hd]
          rcases hc with hc | ⟨b, hc⟩
          · rw [hc]; trivial
          · rw [hc]; exact ⟨fun e => hb b hc e, fun _ => trivial⟩) hf
        rcases this with ⟨_, h⟩ | ⟨h, _⟩
        · exact h.elim
        · exact h
      have yes : ∀ {j d : Nat} {want : Bool} {fr1 : AFr}, FEq fr fr1 → o.guard = some (j, want) → (ops[j]?).bind (·.dst) = some d → d < fr.n → aget fr d = .bool want → eqop A (tyOf P) P o.op fr1 (L ++ MofC M0 ph ph.length) (fun av => eqopsC A (tyOf P) P K ops L ph Zt (MofC M0 ph ph.length) [] (k + 1) rest (aputf o.dst av fr1)) → lexV (ZF Zt) (YC P r K ops L M0 ph) k (o :: rest) fr := by
        intro j d want fr1 hfe hg hd hlt hb h
        obtain ⟨v, hy, hN⟩ := eqop_ok (r := r) (ops := ops) hK' (fun a w I ρ hf => by
          have := aguard_ok (ops := ops) (o := o) (yes := True) (no := False) (fr := frOn (o.looksAt ops) fr1) (a := a) (w := w) (I := I) (ρ := ρ) (by
            unfold aguard
            simp only [hg, hd]
            refine ⟨show d < fr1.n by rw [← hfe.1]; exact hlt, ?_⟩
            rw [agetD_frOn hg hd, ← hfe.2, hb]
            exact ⟨fun _ => trivial, fun e' => e' rfl⟩) hf
          rcases this with ⟨h, _⟩ | ⟨_, h⟩
          · exact h
          · exact h.elim) h
        exact ⟨v, .inr (.inr ⟨notPh hnp, hlw, hy.congr hfe.1.symm (fun t _ => (hfe.2 t).symm)⟩), lexV.congr (fun i o fr fr' v hn ht hy => YC.congr i o fr fr' v hn ht hy) ZF.congr _ _ _ _ (hfe.symm.put o.dst v) (eqopsC_ok hK rest ph [] (k + 1) _ e hN)⟩
      split at h
      · rename_i hg
        obtain ⟨v, hy, hN⟩ := eqop_ok (r := r) (ops := ops) hK' (fun a w I ρ _ => by unfold Region.wanted; simp [hg]) h
        exact ⟨v, .inr (.inr ⟨notPh hnp, hlw, hy⟩), eqopsC_ok hK rest ph [] (k + 1) _ e hN⟩
      · rename_i j want hg
        split at h
        · rename_i d hd
          obtain ⟨hlt, h⟩ := chk_iff.1 h
          have hlt : d < fr.n := Nat.le_of_ble_eq_true hlt
          split at h
          · rename_i b hb
            cases b <;> cases want <;> simp only at h
            · exact yes (know_eq hb) hg hd hlt hb h
            · exact no (know_eq hb) hg hd hlt (fun b' hb' => by rw [hb] at hb'; cases hb'; simp) (.inr ⟨_, hb⟩) h
            · exact no (know_eq hb) hg hd hlt (fun b' hb' => by rw [hb] at hb'; cases hb'; simp) (.inr ⟨_, hb⟩) h
            · exact yes (know_eq hb) hg hd hlt hb h
          · rename_i hb
            exact no ⟨rfl, fun _ => rfl⟩ hg hd hlt (fun b' hb' => by rw [hb] at hb'; cases hb') (.inl hb) h
          · exact h.elim
        · exact h.elim
    · split at h
      · rename_i hg
        obtain ⟨v, hy, hN⟩ := eqopP_okK (r := r) (ops := ops) (fun a w I ρ _ => by unfold Region.wanted; simp [hg]) h
        exact ⟨v, .inr (.inl ⟨notPh hnp, hy⟩), eqopsC_ok hK rest ph [] (k + 1) _ e hN⟩
      · exact h.elim
  | o :: rest, pre, (i, M') :: ph', k, fr, e, h => by
    simp only [eqopsC] at h
    split at h
    · rename_i hg
      split at h
      · rename_i hk
        obtain ⟨av, L', ⟨hL, hN⟩, hop⟩ := ephase_ok (r := r) (ops := ops) h
        subst hL
        have hat : ph[pre.length]? = some (i, M') := by rw [e]; simp
        have hM : MofC M0 ph (pre.length + 1) = M' := by simp [MofC, hat]
        refine ⟨av, .inl ⟨pre.length, by simp [phAt, hat, Nat.eq_of_beq_eq_true hk], hg, by rw [hM]; exact hop⟩, eqopsC_ok hK rest (pre ++ [(i, M')]) ph' (k + 1) _ (by rw [e]; simp) (by simpa [hM] using hN)⟩
      · obtain ⟨h1, h⟩ := chk_iff.1 h
        obtain ⟨v, hy, hN⟩ := eqopP_okK (r := r) (ops := ops) (fun a w I ρ _ => by unfold Region.wanted; simp [hg]) h
        exact ⟨v, .inr (.inl ⟨notPh h1, hy⟩), eqopsC_ok hK rest pre _ (k + 1) _ e hN⟩
    · exact h.elim
/-- A region that draws its order: calls change what there is behind L (ph: which operations, and what there is then); what waits for the last of them reads what came; the rest is quiet, the last waits for all. -/
theorem TW.drawC {A : Ar} {T : TyOps} {id : Nat} {Q : AEx → AFr → Store → Prop} {fr : AFr} {oz : Oper} {L0 : Store} (L M0 : Store) (ph : List (Nat × Store)) (hL0 : L0 = L ++ M0) (hT : T = tyOf P) (hm : P.follows .mixedOrders = true) (hB : Region.lexB .any ops = true) (hz : z + 1 = ops.size) (hTl : tailB ops z = true) (hp1 : (ph.all fun x => Nat.blt x.1 z) = true) (hp2 : adjB ops ph = true) (hoz : ops[z]? = some oz) (hgz : oz.guard = none) (hK : (Nat.ble K (L ++ M0).length && ph.all fun x => Nat.ble K (L ++ x.2).length) = true)
    (h : eqopsC A T P K ops L ph (fun fr' => erop A T P K oz.op fr' (L ++ MofC M0 ph ph.length) (fun av L' => Q .normal (aputf oz.dst av fr') L') Q) M0 ph 0 (ops.toList.take z) fr) : TW P r K (.region id ops true) Q fr L0 := by
  subst hT hL0
  have hKM : ∀ c, c ≤ ph.length → K ≤ (L ++ MofC M0 ph c).length := fun c hc => by
    simp only [Bool.and_eq_true, List.all_eq_true] at hK
    cases c with
    | zero => exact Nat.le_of_ble_eq_true hK.1
    | succ j =>
      have hg : ph[j]? = some (ph[j]'(by omega)) := List.getElem?_eq_getElem _
      simp only [MofC, hg, Option.map_some, Option.getD_some]
      exact Nat.le_of_ble_eq_true (hK.2 _ (List.getElem_mem _))
  refine ⟨Tw.drawC hm hB hTl (phOk_of hp1 hp2) hz hoz hgz hKM ?_⟩
  exact lexV.mono (fun fr ⟨f2, e2, q⟩ => ⟨f2, e2, rop_ok (erop_ok q)⟩) _ _ _ (eqopsC_ok hKM _ [] ph 0 fr (by simp) h)
end
end Go.Proofs.Ytaieiigfheabfaa.Tw
