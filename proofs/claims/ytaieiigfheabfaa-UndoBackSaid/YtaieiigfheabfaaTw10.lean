import Derived.Test.YtaieiigfheabfaaTw9
/-! Regions that draw their order, whose calls change what there is and the last of which may panic; what the first of them waits for reads what there was. -/
namespace Go.Proofs.Ytaieiigfheabfaa.Tw
open Go.RowKit
set_option linter.unusedVariables false
set_option linter.unusedSimpArgs false
section
variable {P : Program} {r : Option Nat} {K : Nat} {ops : Array Oper} {L M0 : Store} {z : Nat} {Z : AFr → Prop} {ph : List (Nat × Store)} {b : Bool} {Qp : AEx → Store → Prop}
def firstW (ops : Array Oper) (ph : List (Nat × Store)) (i : Nat) : Prop := ∃ i0, phAt ph 0 = some i0 ∧ waitB ops i0 i = true
/-- A call that panics. -/
def PanOp (P : Program) (r : Option Nat) (K : Nat) (ops : Array Oper) (L : Store) (Qp : AEx → Store → Prop) (o : Oper) (fr : AFr) (M : Store) : Prop :=
  o.guard = none ∧ OpTw P r K o (fun _ _ => False) (fun e _ L' => Qp e L') (frOn (o.looksAt ops) fr) (L ++ M)
def YE (P : Program) (r : Option Nat) (K : Nat) (ops : Array Oper) (L M0 : Store) (ph : List (Nat × Store)) (b : Bool) (Qp : AEx → Store → Prop) (i : Nat) (o : Oper) (fr : AFr) (v : AV) : Prop :=
  (∃ j, phAt ph j = some i ∧ ((b = true ∧ j + 1 = ph.length ∧ PanOp P r K ops L Qp o fr (MofC M0 ph j)) ∨ (¬ (b = true ∧ j + 1 = ph.length) ∧ PhOp P r K ops L o fr v (MofC M0 ph j) (MofC M0 ph (j + 1))))) ∨
    ((∀ j, phAt ph j ≠ some i) ∧ ∀ c, c ≤ ph.length → (b = true → c < ph.length) → AY P r K ops (L ++ MofC M0 ph c) o fr v) ∨
    ((∀ j, phAt ph j ≠ some i) ∧ lastW ops ph i ∧ (b = true ∨ AY P r K ops (L ++ MofC M0 ph ph.length) o fr v)) ∨
    ((∀ j, phAt ph j ≠ some i) ∧ firstW ops ph i ∧ AY P r K ops (L ++ M0) o fr v)
theorem YE.congr (i : Nat) (o : Oper) (fr fr' : AFr) (v : AV) (hn : fr.n = fr'.n) (h : ∀ t, t ∈ o.looksAt ops → aget fr t = aget fr' t) (hy : YE P r K ops L M0 ph b Qp i o fr v) : YE P r K ops L M0 ph b Qp i o fr' v := by
  rcases hy with ⟨j, a, ⟨hb, hj, g, c⟩ | ⟨hb, g, c⟩⟩ | ⟨a, c⟩ | ⟨a, c, d⟩ | ⟨a, c, d⟩
  · exact .inl ⟨j, a, .inl ⟨hb, hj, g, c.feq (frOn_feq hn h)⟩⟩
  · exact .inl ⟨j, a, .inr ⟨hb, g, c.feq (frOn_feq hn h)⟩⟩
  · exact .inr (.inl ⟨a, fun m h1 h2 => (c m h1 h2).congr hn h⟩)
  · exact .inr (.inr (.inl ⟨a, c, d.imp id fun d => d.congr hn h⟩))
  · exact .inr (.inr (.inr ⟨a, c, d.congr hn h⟩))
theorem wait_back {listed : Array Bool} {k i : Nat} (hB : waitB ops k i = true) (hc : Closed ops listed) (h : listed.getD k false = true) : listed.getD i false = true :=
  clos_listed hc k _ (fun x hx => hc k x h hx) i (by simpa [waitB] using hB)
theorem anyE_sound {Q' : Exit → Act → World → Prop} {w0 : World} {I0 : Nat → Prop} {ρ : List Nat} {a0 : Act} {oz : Oper} (hB : tailB ops z = true) (hp : PhOk ops z ph) (hoz : ops[z]? = some oz) (hgz : oz.guard = none) (S : Base) (hd0 : DefOk S w0 I0 a0.defers) (hKM : ∀ c, c ≤ ph.length → K ≤ (L ++ MofC M0 ph c).length)
    (hPan : ∀ (e : Exit) (a a' : Act) (w w' : World) (I : Nat → Prop) (ρ1 : List Nat) (M : Store), Ev K w0 I0 ρ (L ++ M0) w I ρ1 (L ++ M) → a.tmps.size = a0.tmps.size → Post S K (fun e _ L' => Qp e L') a w I ρ1 (L ++ M) e a' w' → Q' e a' w')
    (hZ : b = false → ∀ fr a w I ρ1 (nx : Act → World → Prop), Z fr → Rel w I ρ1 (L ++ MofC M0 ph ph.length) → RepF w I ρ1 a.tmps fr → Le w0 I0 ρ w I ρ1 → Ev K w0 I0 ρ (L ++ M0) w I ρ1 (L ++ MofC M0 ph ph.length) → a.tmps.size = a0.tmps.size → a.defers = a0.defers → (∀ a w, Q' .normal a w → nx a w) → oz.wpIn (Fen r) 0 P a w nx Q') :
    ∀ (fuel : Nat) (listed : Array Bool) (fr : AFr) (a : Act) (w : World) (I : Nat → Prop) (c : Nat) (ρ1 : List Nat), Closed ops listed → a.tmps.size = a0.tmps.size → a.defers = a0.defers →
      c ≤ ph.length → (b = true → c < ph.length) → (∀ j i, phAt ph j = some i → (listed.getD i false = true ↔ j < c)) → Rel w I ρ1 (L ++ MofC M0 ph c) → RepF w I ρ1 a.tmps fr → Le w0 I0 ρ w I ρ1 → Ev K w0 I0 ρ (L ++ M0) w I ρ1 (L ++ MofC M0 ph c) →
      anyV ops z Z (YE P r K ops L M0 ph b Qp) fuel listed fr → wpAnyIn (Fen r) 0 P .any ops Q' fuel listed a w
  | 0, listed, fr, a, w, I, c, ρ1, hc, h5, h6, hcl, hcb, hci, s1, s2, s3, s4, h => h.elim
  | fuel + 1, listed, fr, a, w, I, c, ρ1, hc, h5, h6, hcl, hcb, hci, s1, s2, s3, s4, h => by
    refine ⟨fun e => absurd e h.1, fun i hi => ?_⟩
    have hput : ∀ (d : Option Tmp) (u : Value), (a.put d u).defers = a0.defers := fun d u => (by cases d <;> rfl : (a.put d u).defers = a.defers).trans h6
    rcases h.2 i hi with ⟨rfl, he, hz⟩ | ⟨_, o, v, ho, hy, hn⟩
    · have hce : c = ph.length := by
        rcases Nat.lt_or_ge c ph.length with h' | h'
        · exfalso
          have hsome : phAt ph c = some (ph[c]'(h')).1 := by simp [phAt, h']
          have hl := tail_last hB hc hi _ (hp.lt c _ hsome)
          exact absurd ((hci c _ hsome).1 hl) (Nat.lt_irrefl _)
        · omega
      subst hce
      have hbf : b = false := by cases b with | false => rfl | true => exact absurd (hcb rfl) (Nat.lt_irrefl _)
      unfold wpOpIn
      simp only [hoz]
      rw [if_pos (by unfold Region.wanted; simp [hgz])]
      refine hZ hbf fr a w I ρ1 _ hz s1 s2 s3 s4 h5 h6 (fun a w hq => ?_)
      cases fuel with
      | zero => exact ⟨he, hq⟩
      | succ fuel => exact ⟨fun _ => hq, fun j hj => by rw [he] at hj; cases hj⟩
    · unfold wpOpIn
      simp only [ho]
      have hself : ∀ j, j ≠ i → (listed.setIfInBounds i true).getD j false = listed.getD j false := fun j hj => getD_set_ne false (Ne.symm hj)
      have hun := (mem_ready.1 hi).1
      have hlt : i < listed.size := by
        rcases Nat.lt_or_ge i listed.size with h' | h'
        · exact h'
        · simp [Array.getElem?_eq_none h'] at hun
      have hunf : listed.getD i false = false := by simp [hlt] at hun ⊢; exact hun
      rcases hy with ⟨j, hj, hjp⟩ | ⟨hne, hy⟩ | ⟨hne, hw, hy⟩ | ⟨hne, hw, hy⟩
      · have hjc : j = c := by
          have h1 : ¬ j < c := fun h' => by have := (hci j i hj).2 h'; rw [hunf] at this; cases this
          cases j with
          | zero => omega
          | succ j =>
            have hjl : j + 1 < ph.length := by
              simp only [phAt, Option.map_eq_some_iff] at hj
              obtain ⟨x, hx, _⟩ := hj
              exact (List.getElem?_eq_some_iff.1 hx).1
            have hsome : phAt ph j = some (ph[j]'(by omega)).1 := by simp [phAt, show j < ph.length from by omega]
            have hl := wait_listed (hp.wait j _ i hsome hj) hc hi
            have := (hci j _ hsome).1 hl
            omega
        subst hjc
        rcases hjp with ⟨hbt, hjn, hg, hop⟩ | ⟨hnb, hg, hop⟩
        · rw [if_pos (by unfold Region.wanted; simp [hg])]
          exact oper_post (fun e a' w' hp => hPan e a a' w w' I ρ1 _ s4 h5 hp) (hop S a w I ρ1 s1 ⟨s2.1, fun t => by rw [aget_frOn]; split; exact s2.2 t; exact .any _⟩ (h6 ▸ hd0.mono s3 s4.size) _ (fun u av L' w' I' ρ' hF => hF.elim))
        rw [if_pos (by unfold Region.wanted; simp [hg])]
        have hjl : j < ph.length := by
          simp only [phAt, Option.map_eq_some_iff] at hj
          obtain ⟨x, hx, _⟩ := hj
          exact (List.getElem?_eq_some_iff.1 hx).1
        have := hop S a w I ρ1 s1 ⟨s2.1, fun t => by rw [aget_frOn]; split; exact s2.2 t; exact .any _⟩ (h6 ▸ hd0.mono s3 s4.size) _ (fun u av L' w' I' ρ' ⟨e1, e2⟩ r1 r2 r3 r4 => by
          subst e1 e2
          obtain ⟨p1, p2⟩ := put_repF (s2.mono r3) r2 o.dst
          exact anyE_sound hB hp hoz hgz S hd0 hKM hPan hZ fuel _ _ _ w' I' (j + 1) ρ' (hc.set hi) (p2.trans h5) (hput ..) hjl (fun hbt => by have : ¬ j + 1 = ph.length := fun e => hnb ⟨hbt, e⟩; omega) (fun j' i' hj' => by
            by_cases e : i' = i
            · subst e
              have := hp.inj j' j i' hj' hj
              subst this
              simp [hlt]
            · rw [hself i' e, hci j' i' hj']
              have : j' ≠ j := fun e' => by subst e'; rw [hj] at hj'; exact e (Option.some.inj hj').symm
              omega) r1 p1 (s3.trans r3) (s4.trans r4) hn)
        exact oper_swap (fun e a' w' hp => by obtain ⟨x, fr', L', I', ρ', hx, q, _⟩ := hp; exact q) this
      · refine hy c hcl hcb S a w I ρ1 _ Q' s1 ⟨s2.1, fun t => by rw [aget_frOn]; split; exact s2.2 t; exact .any _⟩ (h6 ▸ hd0.mono s3 s4.size) (fun u w' I' r1 r2 r3 r4 => ?_)
        obtain ⟨p1, p2⟩ := put_repF (s2.mono r3) r2 o.dst
        exact anyE_sound hB hp hoz hgz S hd0 hKM hPan hZ fuel _ _ _ w' I' c ρ1 (hc.set hi) (p2.trans h5) (hput ..) hcl hcb (fun j' i' hj' => by
          rw [hself i' (fun e => hne j' (e ▸ hj'))]
          exact hci j' i' hj') r1 p1 (s3.trans r3) (s4.trans r4) hn
      · have hce : c = ph.length := by
          rcases Nat.eq_zero_or_pos ph.length with h0 | h0
          · omega
          · have hsome : phAt ph (ph.length - 1) = some (ph[ph.length - 1]'(by omega)).1 := by simp [phAt, show ph.length - 1 < ph.length from by omega]
            have hl := wait_listed (hw _ hsome) hc hi
            have := (hci _ _ hsome).1 hl
            omega
        subst hce
        have hy : AY P r K ops (L ++ MofC M0 ph ph.length) o fr v := hy.elim (fun hbt => absurd (hcb hbt) (Nat.lt_irrefl _)) id
        refine hy S a w I ρ1 _ Q' s1 ⟨s2.1, fun t => by rw [aget_frOn]; split; exact s2.2 t; exact .any _⟩ (h6 ▸ hd0.mono s3 s4.size) (fun u w' I' r1 r2 r3 r4 => ?_)
        obtain ⟨p1, p2⟩ := put_repF (s2.mono r3) r2 o.dst
        exact anyE_sound hB hp hoz hgz S hd0 hKM hPan hZ fuel _ _ _ w' I' ph.length ρ1 (hc.set hi) (p2.trans h5) (hput ..) hcl hcb (fun j' i' hj' => by
          rw [hself i' (fun e => hne j' (e ▸ hj'))]
          exact hci j' i' hj') r1 p1 (s3.trans r3) (s4.trans r4) hn
      · have hce : c = 0 := by
          obtain ⟨i0, h0, hw⟩ := hw
          rcases Nat.eq_zero_or_pos c with h' | h'
          · exact h'
          · have hl := wait_back hw hc ((hci 0 i0 h0).2 h')
            rw [hunf] at hl
            cases hl
        subst hce
        refine hy S a w I ρ1 _ Q' s1 ⟨s2.1, fun t => by rw [aget_frOn]; split; exact s2.2 t; exact .any _⟩ (h6 ▸ hd0.mono s3 s4.size) (fun u w' I' r1 r2 r3 r4 => ?_)
        obtain ⟨p1, p2⟩ := put_repF (s2.mono r3) r2 o.dst
        exact anyE_sound hB hp hoz hgz S hd0 hKM hPan hZ fuel _ _ _ w' I' 0 ρ1 (hc.set hi) (p2.trans h5) (hput ..) hcl hcb (fun j' i' hj' => by
          rw [hself i' (fun e => hne j' (e ▸ hj'))]
          exact hci j' i' hj') r1 p1 (s3.trans r3) (s4.trans r4) hn
def ZE (P : Program) (r : Option Nat) (K : Nat) (b : Bool) (L : Store) (oz : Oper) (Q : AEx → AFr → Store → Prop) (fr : AFr) : Prop := b = false → lastT P r K L oz Q fr
theorem ZE.congr {oz : Oper} {Q : AEx → AFr → Store → Prop} (fr fr' : AFr) (e : FEq fr fr') (h : ZE P r K b L oz Q fr) : ZE P r K b L oz Q fr' := fun hb => by
  obtain ⟨f2, e2, q⟩ := h hb
  exact ⟨f2, e.symm.trans e2, q⟩
theorem Tw.drawE {id : Nat} {Q : AEx → AFr → Store → Prop} {fr : AFr} {oz : Oper} (hm : P.follows .mixedOrders = true) (hB : Region.lexB .any ops = true) (hT : tailB ops z = true) (hp : PhOk ops z ph) (hz : z + 1 = ops.size) (hoz : ops[z]? = some oz) (hgz : oz.guard = none) (hbl : b = true → 0 < ph.length) (hKM : ∀ c, c ≤ ph.length → K ≤ (L ++ MofC M0 ph c).length)
    (h : lexV (ZE P r K b (L ++ MofC M0 ph ph.length) oz Q) (YE P r K ops L M0 ph b (fun e L' => Q e ⟨fr.n, []⟩ L')) 0 (ops.toList.take z) fr) : Tw P r K (.region id ops true) Q fr (L ++ M0) := by
  intro S a w I ρ h1 h2 h3
  simp only [Region.lexB, Bool.and_eq_true] at hB
  have hlen : (ops.toList.take z).length = z := by simp; omega
  have hrep : ∀ k, (Array.replicate ops.size false).getD k false = false := fun k => by
    rcases Nat.lt_or_ge k ops.size with h' | h'
    · simp [h']
    · simp [h']
  have hcl : Closed ops (Array.replicate ops.size false) := fun k i hk => by rw [hrep] at hk; cases hk
  have hany := anyV_lex (Y := YE P r K ops L M0 ph b (fun e L' => Q e ⟨fr.n, []⟩ L')) (Z := ZE P r K b (L ++ MofC M0 ph ph.length) oz Q) (fun i o fr fr' v hn ht hy => YE.congr i o fr fr' v hn ht hy) ZE.congr hT hz (ops.toList.take z) 0 (Array.replicate ops.size false) fr (by omega)
    (fun j hj => by rw [hlen] at hj; simp [hj]) hcl (fun i hi => by omega) (by rw [hlen, hz]; exact hB.2) h
  refine wpIn_region_any hm ?_
  obtain ⟨d1, d2, d3⟩ := drewN_rel (K := K) (w := w) (w' := { w with drawn := w.drawn + 1 }) rfl rfl rfl rfl h1
  have := anyE_sound (P := P) (r := r) (K := K) (ops := ops) (L := L) (M0 := M0) (b := b) (Qp := fun e L' => Q e ⟨fr.n, []⟩ L') (w0 := w) (I0 := I) (ρ := ρ) (a0 := a) (Q' := Post S K Q a w I ρ (L ++ M0)) hT hp hoz hgz S h3 hKM (fun e a1 a' w1 w' I1 ρ1 M hev hsz hp => by
      obtain ⟨x, fr', L', I', ρ', hx, q, r1, r2, r3, ev2, hs2⟩ := hp
      exact ⟨x, ⟨fr.n, []⟩, L', I', ρ', hx, q, r1, ⟨hs2.trans (hsz.trans h2.1), fun t => .any _⟩, r3, hev.trans ev2, hs2.trans hsz⟩) (fun hbf fr' a' w' I' ρ1 nx hze r1 r2 r3 r4 r5 r6 hnx => by
      obtain ⟨f2, e2, q⟩ := hze hbf
      have hop := q S a' w' I' ρ1 r1 (e2.rep r2) (by rw [r6]; exact h3.mono r3 r4.size) nx (fun v av L2 w2 I2 ρ2 hN s1 s2 s3 s4 => by
        obtain ⟨hp1, hp2⟩ := put_repF ((e2.rep r2).mono s3) s2 oz.dst
        refine hnx _ _ ⟨.normal, _, L2, I2, ρ2, trivial, hN, s1, hp1, ?_, r4.trans s4, hp2.trans r5⟩
        have : (a'.put oz.dst v).defers = a.defers := (by cases oz.dst <;> rfl : (a'.put oz.dst v).defers = a'.defers).trans r6
        rw [this]
        exact h3.mono (r3.trans s3) (Nat.le_trans r4.size s4.size))
      exact oper_post (fun e a1 w1 hp => Post.behind r4 r5 hp) hop)
    (ops.toList.take z).length.succ (Array.replicate ops.size false) fr a _ I 0 ρ hcl rfl rfl (Nat.zero_le _) hbl (fun j i hj => by rw [hrep]; simp) d1 (h2.mono d2) d2 d3 hany
  simpa [hlen, hz] using this
theorem lexV.monoY {Z Z' : AFr → Prop} {Y Y' : Nat → Oper → AFr → AV → Prop} (hz : ∀ fr, Z fr → Z' fr) (hy : ∀ k o fr v, Y k o fr v → Y' k o fr v) : ∀ (l : List Oper) (k : Nat) (fr : AFr), lexV Z Y k l fr → lexV Z' Y' k l fr
  | [], k, fr, h => hz fr h
  | o :: l, k, fr, ⟨v, h1, h2⟩ => ⟨v, hy _ _ _ _ h1, lexV.monoY hz hy l (k + 1) _ h2⟩
theorem YE.of_c (hK : ∀ c, c ≤ ph.length → K ≤ (L ++ MofC M0 ph c).length) {i : Nat} {o : Oper} {fr : AFr} {v : AV} (h : YC P r K ops L M0 ph i o fr v) : YE P r K ops L M0 ph false Qp i o fr v := by
  rcases h with ⟨j, a, g⟩ | ⟨a, g⟩ | ⟨a, c, g⟩
  · exact .inl ⟨j, a, .inr ⟨fun e => Bool.noConfusion e.1, g⟩⟩
  · exact .inr (.inl ⟨a, fun c h1 _ => g _ (hK c h1)⟩)
  · exact .inr (.inr (.inl ⟨a, c, .inr g⟩))
def firstB (ops : Array Oper) (ph : List (Nat × Store)) (k : Nat) : Bool :=
  match ph with
  | [] => false
  | x :: _ => waitB ops x.1 k
theorem firstB_ok {k : Nat} (h : firstB ops ph k = true) : firstW ops ph k := by
  cases ph with
  | nil => cases h
  | cons x l => exact ⟨x.1, rfl, h⟩
def epan (P : Program) (K : Nat) (op : Op) (fr : AFr) (L : Store) (Qp : AEx → Store → Prop) : Prop :=
  match op with
  | .call c => match c.callee with
    | .value f => match aval fr f with
      | .func (.func g) first captured => chk (Nat.ble K L.length) (Ent P g ∧ TC P g (first ++ (c.args.toList.map (aval fr) ++ captured)) L (fun e M => match e with | .ret _ => False | .pan v => Qp (.pan v) M))
      | _ => False
    | _ => False
  | _ => False
theorem epan_ok {o : Oper} {fr : AFr} (h : epan P K o.op fr L Qp) : OpTw P r K o (fun _ _ => False) (fun e _ L' => Qp e L') (frOn (o.looksAt ops) fr) L := by
  have hmem : ∀ x ∈ o.op.operands, aval fr x = aval (frOn (o.looksAt ops) fr) x := fun x hx => aval_frOn x hx
  unfold epan at h
  split at h
  · rename_i c ho
    obtain ⟨callee, args, ats⟩ := c
    dsimp only at h
    split at h
    · rename_i f
      split at h
      · rename_i g first captured hf
        obtain ⟨hK, h1, htc⟩ := chk_iff.1 h
        refine opTw_call (f := f) (args := args) (ats := ats) ho (by simpa using hK) ?_
        have ef : aval fr f = aval (frOn (o.looksAt ops) fr) f := hmem f (by rw [ho]; simp [Op.operands, Call.operands])
        have ea : args.toList.map (aval fr) = args.toList.map (aval (frOn (o.looksAt ops) fr)) := List.map_congr_left fun x hx => hmem x (by rw [ho]; simp [Op.operands, Call.operands]; exact .inr (by simpa using hx))
        unfold acallv
        rw [← ef, ← ea, hf]
        refine ⟨h1.h, ?_⟩
        have := htc.h
        simp only [List.append_assoc] at this ⊢
        exact this.mono fun x L'' hx => by
          cases x with
          | ret v => exact hx.elim
          | pan v => exact hx
      · exact h.elim
    · exact h.elim
  · exact h.elim
/-- Behind the call that panics: what waits for it does not go. -/
def eqopsX (A : Ar) (T : TyOps) (P : Program) (ops : Array Oper) (L : Store) (full : List (Nat × Store)) : Nat → List Oper → AFr → Prop
  | _, [], _ => True
  | k, o :: rest, fr => chk (full.all fun x => !Nat.beq x.1 k) (match lastB ops full k with
    | true => eqopsX A T P ops L full (k + 1) rest (aputf o.dst .any fr)
    | false => match o.guard with
      | none => eqopP A T P o.op fr L fun av => eqopsX A T P ops L full (k + 1) rest (aputf o.dst av fr)
      | some _ => False)
theorem eqopsX_ok {A : Ar} {Z : AFr → Prop} (hK : ∀ c, c ≤ ph.length → K ≤ (L ++ MofC M0 ph c).length) (hZ : ∀ fr, Z fr) : ∀ (l : List Oper) (k : Nat) (fr : AFr), eqopsX A (tyOf P) P ops L ph k l fr → lexV Z (YE P r K ops L M0 ph true Qp) k l fr
  | [], k, fr, h => hZ fr
  | o :: rest, k, fr, h => by
    simp only [eqopsX] at h
    obtain ⟨hnp, h⟩ := chk_iff.1 h
    split at h
    · rename_i hl
      exact ⟨.any, .inr (.inr (.inl ⟨notPh hnp, lastB_ok hl, .inl rfl⟩)), eqopsX_ok hK hZ rest (k + 1) _ h⟩
    · split at h
      · rename_i hg
        obtain ⟨v, hy, hN⟩ := eqopP_okK (r := r) (ops := ops) (fun a w I ρ _ => by unfold Region.wanted; simp [hg]) h
        exact ⟨v, .inr (.inl ⟨notPh hnp, fun c h1 _ => hy _ (hK c h1)⟩), eqopsX_ok hK hZ rest (k + 1) _ hN⟩
      · exact h.elim
def eqAll (A : Ar) (T : TyOps) (P : Program) (op : Op) (fr : AFr) (L : Store) (av : AV) : List (Nat × Store) → Prop → Prop
  | [], N => N
  | x :: l, N => eqop A T P op fr (L ++ x.2) fun av' => av' = av ∧ eqAll A T P op fr L av l N
def mayAll : Op → Bool
  | .load .. => true
  | _ => false
def eqopsE (A : Ar) (T : TyOps) (P : Program) (K : Nat) (ops : Array Oper) (L M00 : Store) (full : List (Nat × Store)) (b : Bool) (Zt : AFr → Prop) (Qp : AEx → Store → Prop) : Store → List (Nat × Store) → Nat → List Oper → AFr → Prop
  | M, [], k, l, fr => match b with
    | true => False
    | false => eqopsC A T P K ops L full Zt M [] k l fr
  | M, _ :: _, _, [], fr => False
  | M, (i, M') :: ph', k, o :: rest, fr => match o.guard with
    | none => match Nat.beq k i with
      | true => match b && ph'.isEmpty with
        | true => epan P K o.op fr (L ++ M) Qp ∧ eqopsX A T P ops L full (k + 1) rest (aputf o.dst .any fr)
        | false => ephase A T P K o.op fr (L ++ M) fun av L' => Nd (fun _ => L' = L ++ M') (eqopsE A T P K ops L M00 full b Zt Qp M' ph' (k + 1) rest (aputf o.dst av fr))
      | false => chk (full.all fun x => !Nat.beq x.1 k) (match firstB ops full k with
        | true => eqop A T P o.op fr (L ++ M00) fun av => eqopsE A T P K ops L M00 full b Zt Qp M ((i, M') :: ph') (k + 1) rest (aputf o.dst av fr)
        | false => match !b && mayAll o.op with
          | true => eqop A T P o.op fr (L ++ M00) fun av => eqAll A T P o.op fr L av full (eqopsE A T P K ops L M00 full b Zt Qp M ((i, M') :: ph') (k + 1) rest (aputf o.dst av fr))
          | false => eqopP A T P o.op fr L fun av => eqopsE A T P K ops L M00 full b Zt Qp M ((i, M') :: ph') (k + 1) rest (aputf o.dst av fr))
    | some _ => False
theorem eqAll_ok {A : Ar} {o : Oper} {fr : AFr} {av : AV} (hw : ∀ (a : Act) (w : World) (I : Nat → Prop) (ρ : List Nat), RepF w I ρ a.tmps (frOn (o.looksAt ops) fr) → Region.wanted o (yielded ops a.tmps) = true) :
    ∀ (l : List (Nat × Store)) (N : Prop), (∀ x ∈ l, K ≤ (L ++ x.2).length) → eqAll A (tyOf P) P o.op fr L av l N → (∀ x ∈ l, AY P r K ops (L ++ x.2) o fr av) ∧ N
  | [], N, _, h => ⟨fun x hx => by simp at hx, h⟩
  | x :: l, N, hK, h => by
    obtain ⟨v, hy, rfl, h2⟩ := eqop_ok (r := r) (ops := ops) (hK x (by simp)) hw h
    obtain ⟨h3, h4⟩ := eqAll_ok hw l N (fun y hy => hK y (by simp [hy])) h2
    exact ⟨fun y hy' => by
      rcases List.mem_cons.1 hy' with rfl | hy'
      · exact hy
      · exact h3 y hy', h4⟩
theorem eqopsE_ok {A : Ar} {Zt : AFr → Prop} (hK : ∀ c, c ≤ ph.length → K ≤ (L ++ MofC M0 ph c).length) : ∀ (l : List Oper) (pre ph' : List (Nat × Store)) (k : Nat) (fr : AFr), ph = pre ++ ph' → eqopsE A (tyOf P) P K ops L M0 ph b Zt Qp (MofC M0 ph pre.length) ph' k l fr → lexV (fun fr => b = false → ZF Zt fr) (YE P r K ops L M0 ph b Qp) k l fr
  | l, pre, [], k, fr, e, h => by
    have h2 : b = false ∧ eqopsC A (tyOf P) P K ops L ph Zt (MofC M0 ph pre.length) [] k l fr := by
      cases l <;> cases b <;> first | exact ⟨rfl, h⟩ | exact False.elim h
    obtain ⟨rfl, h3⟩ := h2
    · exact lexV.monoY (fun fr h _ => h) (fun _ _ _ _ h => YE.of_c hK h) _ _ _ (eqopsC_ok hK l pre [] k fr e h3)
  | [], pre, _ :: _, _, fr, _, h => by simp only [eqopsE] at h
  | o :: rest, pre, (i, M') :: ph', k, fr, e, h => by
    simp only [eqopsE] at h
    split at h
    · rename_i hg
      have hat : ph[pre.length]? = some (i, M') := by rw [e]; simp
      split at h
      · rename_i hk
        have hph : phAt ph pre.length = some k := by simp [phAt, hat, Nat.eq_of_beq_eq_true hk]
        split at h
        · rename_i hb
          simp only [Bool.and_eq_true, List.isEmpty_iff] at hb
          obtain ⟨hb, rfl⟩ := hb
          obtain ⟨h1, h2⟩ := h
          have hlen : pre.length + 1 = ph.length := by rw [e]; simp
          subst hb
          exact ⟨.any, .inl ⟨pre.length, hph, .inl ⟨rfl, hlen, hg, epan_ok h1⟩⟩, eqopsX_ok hK (fun fr hb => by cases hb) rest (k + 1) _ h2⟩
        · rename_i hb
          obtain ⟨av, L', ⟨hL, hN⟩, hop⟩ := ephase_ok (r := r) (ops := ops) h
          subst hL
          have hM : MofC M0 ph (pre.length + 1) = M' := by simp [MofC, hat]
          refine ⟨av, .inl ⟨pre.length, hph, .inr ⟨fun hbj => absurd (hb.symm.trans ?_) (by decide : ¬ false = true), hg, by rw [hM]; exact hop⟩⟩, eqopsE_ok hK rest (pre ++ [(i, M')]) ph' (k + 1) _ (by rw [e]; simp) (by simpa [hM] using hN)⟩
          obtain ⟨hb1, hb2⟩ := hbj
          have : ph'.length = 0 := by
            have := congrArg List.length e
            simp at this
            omega
          rw [hb1, List.eq_nil_of_length_eq_zero this]
          rfl
      · obtain ⟨h1, h⟩ := chk_iff.1 h
        split at h
        · rename_i hf
          obtain ⟨v, hy, hN⟩ := eqop_ok (r := r) (ops := ops) (hK 0 (Nat.zero_le _)) (fun a w I ρ _ => by unfold Region.wanted; simp [hg]) h
          exact ⟨v, .inr (.inr (.inr ⟨notPh h1, firstB_ok hf, hy⟩)), eqopsE_ok hK rest pre _ (k + 1) _ e hN⟩
        · split at h
          · rename_i hm
            have hbf : b = false := by
              simp only [Bool.and_eq_true] at hm
              cases b with
              | false => rfl
              | true => cases hm.1
            have hKx : ∀ x ∈ ph, K ≤ (L ++ x.2).length := fun x hx => by
              obtain ⟨j, hj⟩ := List.getElem?_of_mem hx
              have hjl := (List.getElem?_eq_some_iff.1 hj).1
              have := hK (j + 1) hjl
              simpa only [MofC, hj, Option.map_some, Option.getD_some] using this
            obtain ⟨v, hy, hN⟩ := eqop_ok (r := r) (ops := ops) (hK 0 (Nat.zero_le _)) (fun a w I ρ _ => by unfold Region.wanted; simp [hg]) h
            obtain ⟨h3, h4⟩ := eqAll_ok (r := r) (ops := ops) (fun a w I ρ _ => by unfold Region.wanted; simp [hg]) ph _ hKx hN
            refine ⟨v, .inr (.inl ⟨notPh h1, fun c hc _ => ?_⟩), eqopsE_ok hK rest pre _ (k + 1) _ e h4⟩
            cases c with
            | zero => exact hy
            | succ j =>
              have hg : ph[j]? = some (ph[j]'(by omega)) := List.getElem?_eq_getElem _
              simp only [MofC, hg, Option.map_some, Option.getD_some]
              exact h3 _ (List.getElem_mem _)
          · obtain ⟨v, hy, hN⟩ := eqopP_okK (r := r) (ops := ops) (fun a w I ρ _ => by unfold Region.wanted; simp [hg]) h
            exact ⟨v, .inr (.inl ⟨notPh h1, fun c h1 _ => hy _ (hK c h1)⟩), eqopsE_ok hK rest pre _ (k + 1) _ e hN⟩
    · exact h.elim
theorem TW.drawE {A : Ar} {T : TyOps} {id : Nat} {Q : AEx → AFr → Store → Prop} {fr : AFr} {oz : Oper} {L0 : Store} (b : Bool) (L M0 : Store) (ph : List (Nat × Store)) (hL0 : L0 = L ++ M0) (hT : T = tyOf P) (hm : P.follows .mixedOrders = true) (hB : Region.lexB .any ops = true) (hz : z + 1 = ops.size) (hTl : tailB ops z = true) (hp1 : (ph.all fun x => Nat.blt x.1 z) = true) (hp2 : adjB ops ph = true) (hoz : ops[z]? = some oz) (hgz : oz.guard = none) (hK : (!ph.isEmpty && (Nat.ble K (L ++ M0).length && ph.all fun x => Nat.ble K (L ++ x.2).length)) = true)
    (h : eqopsE A T P K ops L M0 ph b (fun fr' => erop A T P K oz.op fr' (L ++ MofC M0 ph ph.length) (fun av L' => Q .normal (aputf oz.dst av fr') L') Q) (fun e L' => Q e ⟨fr.n, []⟩ L') M0 ph 0 (ops.toList.take z) fr) : TW P r K (.region id ops true) Q fr L0 := by
  subst hT hL0
  simp only [Bool.and_eq_true, List.all_eq_true] at hK
  have hKM : ∀ c, c ≤ ph.length → K ≤ (L ++ MofC M0 ph c).length := fun c hc => by
    cases c with
    | zero => exact Nat.le_of_ble_eq_true hK.2.1
    | succ j =>
      have hg : ph[j]? = some (ph[j]'(by omega)) := List.getElem?_eq_getElem _
      simp only [MofC, hg, Option.map_some, Option.getD_some]
      exact Nat.le_of_ble_eq_true (hK.2.2 _ (List.getElem_mem _))
  refine ⟨Tw.drawE (b := b) hm hB hTl (phOk_of hp1 hp2) hz hoz hgz (fun _ => by
    have := hK.1
    cases ph with
    | nil => cases this
    | cons x l => exact Nat.succ_pos _) hKM ?_⟩
  exact lexV.monoY (fun fr h hb => by
    obtain ⟨f2, e2, q⟩ := h hb
    exact ⟨f2, e2, rop_ok (erop_ok q)⟩) (fun _ _ _ _ h => h) _ _ _ (eqopsE_ok hKM _ [] ph 0 fr (by simp) h)
end
theorem TW.vsE {P : Program} {r : Option Nat} {K : Nat} {c : Code} {Q : AEx → AFr → Store → Prop} {fr : AFr} {L : Store} (l' : List (Nat × AV)) (L' : Store) (n : Nat) (hn : fr.n = n) (h : eVS false K (autoπ K fr L l' L') fr L l' L' (TW P r K c Q ⟨n, l'⟩ L')) : TW P r K c Q fr L := by
  obtain ⟨h1, h2⟩ := eVS_ok h
  subst hn
  exact ⟨Tw.vs h1 h2.h⟩
/-- The renaming given by hand. -/
theorem TW.vsP {P : Program} {r : Option Nat} {K : Nat} {c : Code} {Q : AEx → AFr → Store → Prop} {fr : AFr} {L : Store} (π : List Nat) (l' : List (Nat × AV)) (L' : Store) (n : Nat) (hn : fr.n = n) (h : eVS false K π fr L l' L' (TW P r K c Q ⟨n, l'⟩ L')) : TW P r K c Q fr L := by
  obtain ⟨h1, h2⟩ := eVS_ok h
  subst hn
  exact ⟨Tw.vs h1 h2.h⟩
theorem LM.ofP {σ : Type} {S : LI σ} {K n : Nat} {s : σ} {fr : AFr} {L : Store} (π : List Nat) (s' : σ) (hn : fr.n = n) (hi : S.inv s') (hm : S.m s' < S.m s) (h : eVS false K π fr L (S.fr s') (S.st s') True) : LM S K n s fr L :=
  ⟨s', hi, hm, hn ▸ (eVS_ok h).1⟩
theorem TW.loopP {σ : Type} (A : Ar) {T : TyOps} {P : Program} {r : Option Nat} {K : Nat} {c : Code} {Q : AEx → AFr → Store → Prop} {fr : AFr} {L : Store} (hT : T = tyOf P) (S : LI σ) (n : Nat) (hn : fr.n = n) (s0 : σ) (π : List Nat) (hi : S.inv s0)
    (hv : eVS false K π fr L (S.fr s0) (S.st s0) True)
    (round : ∀ s, S.inv s → ∀ (l1 : List (Nat × AV)) (L1 : Store), l1 = S.fr s → L1 = S.st s → ewp A T P r K c (thenQ (LM S K n s) Q) ⟨n, l1⟩ L1) : TW P r K (.loop c) Q fr L := by
  subst hT
  refine ⟨Tw.loop (fun m fr1 L1 => ∃ s, S.inv s ∧ m = S.m s ∧ fr1 = ⟨n, S.fr s⟩ ∧ L1 = S.st s) (n0 := S.m s0) (hn ▸ (eVS_ok hv).1) ⟨s0, hi, rfl, rfl, rfl⟩ ?_⟩
  rintro m fr1 L1 ⟨s, hs, rfl, rfl, rfl⟩
  refine (Tw.of_ewp _ _ _ _ (round s hs _ _ rfl rfl)).mono fun e fr2 L2 hq => ?_
  cases e <;> first | exact hq | (obtain ⟨s', h1, h2, h3⟩ := hq; exact ⟨S.m s', ⟨n, S.fr s'⟩, S.st s', h2, h3, s', h1, rfl, rfl, rfl⟩)
end Go.Proofs.Ytaieiigfheabfaa.Tw
