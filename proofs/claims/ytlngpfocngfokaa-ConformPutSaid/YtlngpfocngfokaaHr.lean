import Derived.Test.YtlngpfocngfokaaHq
/-! Regions that draw their order, in which one call changes what there is and one operation lays a new cell, in whichever order. -/
namespace Go.Proofs.Ytlngpfocngfokaa
open Go.Proofs.Ytlngpfocngfokaa.Tw Go.RowKit
set_option linter.unusedVariables false
set_option linter.unusedSimpArgs false
section
variable {P : Program} {r : Option Nat} {K : Nat} {ops : Array Oper} {M0 M1 : Store} {x : AO} {z c y : Nat} {vc vy : AV} {Z : AFr → Prop}
def stB (M0 M1 : Store) (x : AO) : Bool → Bool → Store
  | false, false => M0
  | true, false => M1
  | false, true => M0 ++ [some x]
  | true, true => M1 ++ [some x]
/-- What is known of an operation: the call, the one that lays the cell, the quiet ones. -/
def YB (P : Program) (r : Option Nat) (K : Nat) (ops : Array Oper) (M0 M1 : Store) (x : AO) (c y : Nat) (vc vy : AV) (i : Nat) (o : Oper) (fr : AFr) (v : AV) : Prop :=
  (i = y ∧ v = vy) ∨ (i ≠ y ∧ i = c ∧ v = vc ∧ o.guard = none ∧ ∀ yd, OpTw P r K o (fun av L' => av = vc ∧ L' = stB M0 M1 x true yd) (fun _ _ _ => False) (frOn (o.looksAt ops) fr) (stB M0 M1 x false yd)) ∨ (i ≠ y ∧ i ≠ c ∧ AYK P r K ops [] o fr v)
theorem YB.congr (i : Nat) (o : Oper) (fr fr' : AFr) (v : AV) (hn : fr.n = fr'.n) (h : ∀ t, t ∈ o.looksAt ops → aget fr t = aget fr' t) (hy : YB P r K ops M0 M1 x c y vc vy i o fr v) : YB P r K ops M0 M1 x c y vc vy i o fr' v :=
  hy.imp id (Or.imp (fun ⟨a, b, d, g, e⟩ => ⟨a, b, d, g, fun yd => (e yd).feq (frOn_feq hn h)⟩) fun ⟨a, b, e⟩ => ⟨a, b, fun M hK => (e M hK).congr hn h⟩)
theorem anyB_sound {Q' : Exit → Act → World → Prop} {w0 : World} {I0 : Nat → Prop} {ρ : List Nat} {a0 : Act} {oz oy : Oper} (hB : tailB ops z = true) (hyz : y < z) (hcz : c < z) (hcy : c ≠ y) (hoz : ops[z]? = some oz) (hgz : oz.guard = none) (hoy : ops[y]? = some oy) (hgy : oy.guard = none) (S : Base) (hd0 : DefOk S w0 I0 a0.defers)
    (hK : ∀ cd yd, K ≤ (stB M0 M1 x cd yd).length)
    (hal : ∀ cd fr, OpTw P r K oy (fun av L' => av = vy ∧ L' = stB M0 M1 x cd true) (fun _ _ _ => False) fr (stB M0 M1 x cd false))
    (hZ : ∀ fr a w I ρ1 (nx : Act → World → Prop), Z fr → Rel w I ρ1 (stB M0 M1 x true true) → RepF w I ρ1 a.tmps fr → Le w0 I0 ρ w I ρ1 → Ev K w0 I0 ρ M0 w I ρ1 (stB M0 M1 x true true) → a.tmps.size = a0.tmps.size → a.defers = a0.defers → (∀ a w, Q' .normal a w → nx a w) → oz.wpIn (Fen r) 0 P a w nx Q') :
    ∀ (fuel : Nat) (listed : Array Bool) (fr : AFr) (a : Act) (w : World) (I : Nat → Prop) (cd yd : Bool) (ρ1 : List Nat), Closed ops listed → a.tmps.size = a0.tmps.size → a.defers = a0.defers →
      listed.getD c false = cd → listed.getD y false = yd → Rel w I ρ1 (stB M0 M1 x cd yd) → RepF w I ρ1 a.tmps fr → Le w0 I0 ρ w I ρ1 → Ev K w0 I0 ρ M0 w I ρ1 (stB M0 M1 x cd yd) →
      anyV ops z Z (YB P r K ops M0 M1 x c y vc vy) fuel listed fr → wpAnyIn (Fen r) 0 P .any ops Q' fuel listed a w
  | 0, listed, fr, a, w, I, cd, yd, ρ1, hc, h5, h6, hcd, hyd, s1, s2, s3, s4, h => h.elim
  | fuel + 1, listed, fr, a, w, I, cd, yd, ρ1, hc, h5, h6, hcd, hyd, s1, s2, s3, s4, h => by
    refine ⟨fun e => absurd e h.1, fun i hi => ?_⟩
    have hput : ∀ (d : Option Tmp) (u : Value), (a.put d u).defers = a0.defers := fun d u => (by cases d <;> rfl : (a.put d u).defers = a.defers).trans h6
    rcases h.2 i hi with ⟨rfl, he, hz⟩ | ⟨_, o, v, ho, hy, hn⟩
    · have hyl := tail_last hB hc hi y hyz
      have hcl := tail_last hB hc hi c hcz
      obtain rfl : yd = true := hyd.symm.trans hyl
      obtain rfl : cd = true := hcd.symm.trans hcl
      unfold wpOpIn
      simp only [hoz]
      rw [if_pos (by unfold Region.wanted; simp [hgz])]
      refine hZ fr a w I ρ1 _ hz s1 s2 s3 s4 h5 h6 (fun a w hq => ?_)
      cases fuel with
      | zero => exact ⟨he, hq⟩
      | succ fuel => exact ⟨fun _ => hq, fun j hj => by rw [he] at hj; cases hj⟩
    · unfold wpOpIn
      simp only [ho]
      have hself : ∀ j, j ≠ i → (listed.setIfInBounds i true).getD j false = listed.getD j false := fun j hj => getD_set_ne false (Ne.symm hj)
      have hun := (mem_ready.1 hi).1
      have hlt : i < listed.size := by
        rcases Nat.lt_or_ge i listed.size with h' | h'
        · exact h'
        · simp [Array.getElem?_eq_none h'] at hun
      have hunf : listed.getD i false = false := by simp [hlt] at hun ⊢; exact hun
      rcases hy with ⟨hiy, hv⟩ | ⟨hny, hic, hv, hg, hop⟩ | ⟨hny, hnc, hy⟩
      · obtain rfl : y = i := hiy.symm
        obtain rfl : vy = v := hv.symm
        rw [hoy] at ho; cases ho
        obtain rfl : yd = false := hyd.symm.trans hunf
        rw [if_pos (by unfold Region.wanted; simp [hgy])]
        have hop := hal cd fr S a w I ρ1 s1 s2 (h6 ▸ hd0.mono s3 s4.size) _ (fun u av L' w' I' ρ' ⟨e1, e2⟩ r1 r2 r3 r4 => by
          obtain rfl : vy = av := e1.symm
          subst e2
          obtain ⟨p1, p2⟩ := put_repF (s2.mono r3) r2 oy.dst
          exact anyB_sound hB hyz hcz hcy hoz hgz hoy hgy S hd0 hK hal hZ fuel _ _ _ w' I' cd true ρ' (hc.set hi) (p2.trans h5) (hput ..) (by rw [hself c hcy]; exact hcd) (by simp [hlt]) r1 p1 (s3.trans r3) (s4.trans r4) hn)
        exact oper_swap (fun e a' w' hp => by obtain ⟨x, fr', L', I', ρ', hx, q, _⟩ := hp; exact q) hop
      · obtain rfl : c = i := hic.symm
        obtain rfl : vc = v := hv.symm
        obtain rfl : cd = false := hcd.symm.trans hunf
        rw [if_pos (by unfold Region.wanted; simp [hg])]
        have := hop yd S a w I ρ1 s1 ⟨s2.1, fun t => by rw [aget_frOn]; split; exact s2.2 t; exact .any _⟩ (h6 ▸ hd0.mono s3 s4.size) _ (fun u av L' w' I' ρ' ⟨e1, e2⟩ r1 r2 r3 r4 => by
          obtain rfl : vc = av := e1.symm
          subst e2
          obtain ⟨p1, p2⟩ := put_repF (s2.mono r3) r2 o.dst
          exact anyB_sound hB hyz hcz hcy hoz hgz hoy hgy S hd0 hK hal hZ fuel _ _ _ w' I' true yd ρ' (hc.set hi) (p2.trans h5) (hput ..) (by simp [hlt]) (by rw [hself y (Ne.symm hny)]; exact hyd) r1 p1 (s3.trans r3) (s4.trans r4) hn)
        exact oper_swap (fun e a' w' hp => by obtain ⟨x, fr', L', I', ρ', hx, q, _⟩ := hp; exact q) this
      · have hy0 := hy (stB M0 M1 x cd yd) (hK cd yd)
        rw [List.nil_append] at hy0
        refine hy0 S a w I ρ1 _ Q' s1 ⟨s2.1, fun t => by rw [aget_frOn]; split; exact s2.2 t; exact .any _⟩ (h6 ▸ hd0.mono s3 s4.size) (fun u w' I' r1 r2 r3 r4 => ?_)
        obtain ⟨p1, p2⟩ := put_repF (s2.mono r3) r2 o.dst
        exact anyB_sound hB hyz hcz hcy hoz hgz hoy hgy S hd0 hK hal hZ fuel _ _ _ w' I' cd yd ρ1 (hc.set hi) (p2.trans h5) (hput ..) (by rw [hself c (Ne.symm hnc)]; exact hcd) (by rw [hself y (Ne.symm hny)]; exact hyd) r1 p1 (s3.trans r3) (s4.trans r4) hn
theorem Tw.drawB {id : Nat} {Q : AEx → AFr → Store → Prop} {fr : AFr} {oz oy : Oper} (hm : P.follows .mixedOrders = true) (hB : Region.lexB .any ops = true) (hT : tailB ops z = true) (hz : z + 1 = ops.size) (hyz : y < z) (hcz : c < z) (hcy : c ≠ y) (hoz : ops[z]? = some oz) (hgz : oz.guard = none) (hoy : ops[y]? = some oy) (hgy : oy.guard = none)
    (hK : ∀ cd yd, K ≤ (stB M0 M1 x cd yd).length)
    (hal : ∀ cd fr, OpTw P r K oy (fun av L' => av = vy ∧ L' = stB M0 M1 x cd true) (fun _ _ _ => False) fr (stB M0 M1 x cd false))
    (h : lexV (lastT P r K (stB M0 M1 x true true) oz Q) (YB P r K ops M0 M1 x c y vc vy) 0 (ops.toList.take z) fr) : Tw P r K (.region id ops true) Q fr M0 := by
  intro S a w I ρ h1 h2 h3
  simp only [Region.lexB, Bool.and_eq_true] at hB
  have hlen : (ops.toList.take z).length = z := by simp; omega
  have hrep : ∀ k, (Array.replicate ops.size false).getD k false = false := fun k => by
    rcases Nat.lt_or_ge k ops.size with h' | h'
    · simp [h']
    · simp [h']
  have hcl : Closed ops (Array.replicate ops.size false) := fun k i hk => by rw [hrep] at hk; cases hk
  have hany := anyV_lex (Y := YB P r K ops M0 M1 x c y vc vy) (Z := lastT P r K (stB M0 M1 x true true) oz Q) (fun i o fr fr' v hn ht hy => YB.congr i o fr fr' v hn ht hy) (fun fr fr' e ⟨f2, e2, q⟩ => ⟨f2, e.symm.trans e2, q⟩) hT hz (ops.toList.take z) 0 (Array.replicate ops.size false) fr (by omega)
    (fun j hj => by rw [hlen] at hj; simp [hj]) hcl (fun i hi => by omega) (by rw [hlen, hz]; exact hB.2) h
  refine wpIn_region_any hm ?_
  obtain ⟨d1, d2, d3⟩ := drewN_rel (K := K) (w := w) (w' := { w with drawn := w.drawn + 1 }) rfl rfl rfl rfl h1
  have := anyB_sound (P := P) (r := r) (K := K) (ops := ops) (M0 := M0) (M1 := M1) (x := x) (vc := vc) (vy := vy) (w0 := w) (I0 := I) (ρ := ρ) (a0 := a) (Q' := Post S K Q a w I ρ M0) hT hyz hcz hcy hoz hgz hoy hgy S h3 hK hal (fun fr' a' w' I' ρ1 nx ⟨f2, e2, q⟩ r1 r2 r3 r4 r5 r6 hnx => by
      have hop := q S a' w' I' ρ1 r1 (e2.rep r2) (by rw [r6]; exact h3.mono r3 r4.size) nx (fun v av L2 w2 I2 ρ2 hN s1 s2 s3 s4 => by
        obtain ⟨hp1, hp2⟩ := put_repF ((e2.rep r2).mono s3) s2 oz.dst
        refine hnx _ _ ⟨.normal, _, L2, I2, ρ2, trivial, hN, s1, hp1, ?_, r4.trans s4, hp2.trans r5⟩
        have : (a'.put oz.dst v).defers = a.defers := (by cases oz.dst <;> rfl : (a'.put oz.dst v).defers = a'.defers).trans r6
        rw [this]
        exact h3.mono (r3.trans s3) (Nat.le_trans r4.size s4.size))
      exact oper_post (fun e a1 w1 hp => Post.behind r4 r5 hp) hop)
    (ops.toList.take z).length.succ (Array.replicate ops.size false) fr a _ I false false ρ hcl rfl rfl (hrep c) (hrep y) d1 (h2.mono d2) d2 d3 hany
  simpa [hlen, hz] using this
/-- Reckoned out. -/
def eqopsB (A : Ar) (T : TyOps) (P : Program) (K : Nat) (M0 M1 : Store) (x : AO) (c y : Nat) (vc vy : AV) (Zt : AFr → Prop) : Nat → List Oper → AFr → Prop
  | _, [], fr => Zt fr
  | k, o :: rest, fr => match Nat.beq k y with
    | true => eqopsB A T P K M0 M1 x c y vc vy Zt (k + 1) rest (aputf o.dst vy fr)
    | false => match o.guard with
      | none => match Nat.beq k c with
        | true => ephase A T P K o.op fr M0 (fun av L' => av = vc ∧ L' = M1) ∧ ephase A T P K o.op fr (M0 ++ [some x]) (fun av L' => av = vc ∧ L' = M1 ++ [some x]) ∧ eqopsB A T P K M0 M1 x c y vc vy Zt (k + 1) rest (aputf o.dst vc fr)
        | false => eqopP A T P o.op fr [] fun av => eqopsB A T P K M0 M1 x c y vc vy Zt (k + 1) rest (aputf o.dst av fr)
      | some _ => False
theorem eqopsB_ok {A : Ar} {Zt : AFr → Prop} : ∀ (l : List Oper) (k : Nat) (fr : AFr), eqopsB A (tyOf P) P K M0 M1 x c y vc vy Zt k l fr → lexV Zt (YB P r K ops M0 M1 x c y vc vy) k l fr
  | [], _, _, h => h
  | o :: rest, k, fr, h => by
    simp only [eqopsB] at h
    split at h
    · rename_i hk
      exact ⟨vy, .inl ⟨Nat.eq_of_beq_eq_true hk, rfl⟩, eqopsB_ok rest (k + 1) _ h⟩
    · rename_i hk
      have hky : k ≠ y := fun e => by subst e; simp at hk
      split at h
      · rename_i hg
        split at h
        · rename_i hkc
          obtain ⟨ha, hb, h⟩ := h
          obtain ⟨a1, b1, ⟨e1, e2⟩, o1⟩ := ephase_ok (r := r) (ops := ops) ha
          obtain ⟨a2, b2, ⟨e3, e4⟩, o2⟩ := ephase_ok (r := r) (ops := ops) hb
          rw [e1, e2] at o1
          rw [e3, e4] at o2
          exact ⟨vc, .inr (.inl ⟨hky, Nat.eq_of_beq_eq_true hkc, rfl, hg, fun yd => by cases yd; exact o1; exact o2⟩), eqopsB_ok rest (k + 1) _ h⟩
        · rename_i hkc
          obtain ⟨v, hy, hN⟩ := eqopP_okK (r := r) (ops := ops) (K := K) (fun a w I ρ _ => by unfold Region.wanted; simp [hg]) h
          exact ⟨v, .inr (.inr ⟨hky, fun e => by subst e; simp at hkc, hy⟩), eqopsB_ok rest (k + 1) _ hN⟩
      · exact h.elim
/-- A region that draws its order: one call changes what there is, one operation lays a new cell, the last writes, all others are quiet. -/
theorem TW.drawB {A : Ar} {T : TyOps} {id : Nat} {Q : AEx → AFr → Store → Prop} {fr : AFr} {oz oy : Oper} {ty : TypeId} (c y : Nat) (vc zv : AV) (M1 : Store) (hT : T = tyOf P) (hm : P.follows .mixedOrders = true) (hB : Region.lexB .any ops = true) (hz : z + 1 = ops.size) (hTl : tailB ops z = true) (hyz : Nat.blt y z = true) (hcz : Nat.blt c z = true) (hcy : Nat.beq c y = false) (hoz : ops[z]? = some oz) (hgz : oz.guard = none) (hoy : ops[y]? = some oy) (hgy : oy.guard = none) (hop : oy.op = .alloc ty)
    (hlen : Nat.beq M1.length M0.length = true) (hK : Nat.ble K M0.length = true)
    (hal : ealloc T K M0 ty (fun av L' => av = .ref M0.length zv.cells.length 0 0 ∧ L' = M0 ++ [some (.box zv.cells.length zv)])) (hal1 : ealloc T K M1 ty (fun av L' => av = .ref M0.length zv.cells.length 0 0 ∧ L' = M1 ++ [some (.box zv.cells.length zv)]))
    (h : eqopsB A T P K M0 M1 (.box zv.cells.length zv) c y vc (.ref M0.length zv.cells.length 0 0) (fun fr' => erop A T P K oz.op fr' (M1 ++ [some (.box zv.cells.length zv)]) (fun av L' => Q .normal (aputf oz.dst av fr') L') Q) 0 (ops.toList.take z) fr) : TW P r K (.region id ops true) Q fr M0 := by
  subst hT
  have hl := Nat.eq_of_beq_eq_true hlen
  have hk := Nat.le_of_ble_eq_true hK
  refine ⟨Tw.drawB (M1 := M1) (x := .box zv.cells.length zv) (c := c) (y := y) (vc := vc) (vy := .ref M0.length zv.cells.length 0 0) hm hB hTl hz (Nat.le_of_ble_eq_true hyz) (Nat.le_of_ble_eq_true hcz) (fun e => by subst e; simp at hcy) hoz hgz hoy hgy (fun cd yd => ?_) (fun cd fr => ?_) ?_⟩
  · cases cd <;> cases yd <;> simp [stB] <;> omega
  · refine rop_ok (erop_ok (A := A) ?_)
    unfold erop
    rw [hop]
    cases cd
    · exact hal
    · exact hal1
  · exact lexV.mono (fun fr q => ⟨fr, ⟨rfl, fun _ => rfl⟩, rop_ok (erop_ok q)⟩) _ _ _ (eqopsB_ok _ _ _ h)
end
end Go.Proofs.Ytlngpfocngfokaa
