import Derived.Test.YtaieiigfheabfaaTw6
import Derived.ChangeArms
import Derived.ChangeSlices
import Derived.WideShapes
/-! One abstract state matched against another one, reckoned out. -/
namespace Go.Proofs.Ytaieiigfheabfaa.Tw
open Go.RowKit
set_option linter.unusedVariables false
set_option linter.unusedSimpArgs false
/-- Of no object, as a thing to be shown. -/
structure Pur (l : List AV) : Prop where
  h : purL l = true
/-- A stretch of a row. -/
structure Cut (els : List AV) (off n : Nat) (es : List AV) : Prop where
  h1 : (els.drop off).take n = es
  h2 : off + n ≤ els.length
/-- A map's keys and values are of no object. -/
structure PurM (es : List (Nat × AV × AV)) : Prop where
  h : ∀ x ∈ es, x.2.1.pur = true ∧ x.2.2.pur = true
def memN (p : Nat) : List Nat → Bool
  | [] => false
  | q :: l => match Nat.beq p q with
    | true => true
    | false => memN p l
theorem memN_false {p : Nat} : ∀ {l : List Nat}, memN p l = false → p ∉ l
  | [], _ => by simp
  | q :: l, h => by
    simp only [memN] at h
    split at h
    · cases h
    · rename_i hq
      have : p ≠ q := fun e => by subst e; simp at hq
      simp [this, memN_false h]
/-- One way or the other. -/
def selB (b : Bool) (X Y : Prop) : Prop := match b with
  | false => X
  | true => Y
theorem selB_cases {b : Bool} {X Y : Prop} (h : selB b X Y) : X ∨ Y := by
  cases b
  · exact .inl h
  · exact .inr h
theorem selB_mono {b : Bool} {X Y X' Y' : Prop} (hX : X → X') (hY : Y → Y') (h : selB b X Y) : selB b X' Y' := by
  cases b
  · exact hX h
  · exact hY h
mutual
/-- A value (a) of the objects L is known as c, where the objects are those at the places π. -/
def em (fz fe : Bool) (π : List Nat) (L : Store) : AV → AV → Prop → Prop
  | .any, _, K => K
  | .int k n, a, K => match a with | .int k' m => chk (k' == k) (m = n ∧ K) | _ => False
  | .bool b, a, K => match a with | .bool b' => b' = b ∧ K | _ => False
  | .str s, a, K => match a with | .str s' => s' = s ∧ K | _ => False
  | .nil, a, K => match a with | .nil => K | _ => False
  | .nils, a, K => match a with | .nils => K | _ => False
  | .nilf, a, K => match a with | .nilf => K | _ => False
  | .ref p w i f, a, K => match a with
    | .ref q w' i' f' => match π[p]? with
      | some q' => chk (Nat.beq q q' && Nat.beq w' w && Nat.beq f' f) (i' = i ∧ K)
      | none => False
    | _ => False
  | .row p w off n, a, K => match a with
    | .row q w' off' n' => match π[p]? with
      | some q' => chk (Nat.beq q q' && Nat.beq w' w) (off' = off ∧ n' = n ∧ K)
      | none => False
    | _ => False
  | .map p, a, K => match a with
    | .map q => match π[p]? with
      | some q' => chk (Nat.beq q q') K
      | none => False
    | _ => False
  | .yield p, a, K => match a with
    | .yield q => match π[p]? with
      | some q' => chk (Nat.beq q q') K
      | none => False
    | _ => False
  | .sl w es, a, K => match a with
    | .nils => [] = es ∧ K
    | .sl w' es' => chk (Nat.beq w' w) (es' = es ∧ Pur es ∧ K)
    | .slt w' es' => chk (Nat.beq w' w) (es' = es ∧ Pur es ∧ K)
    | .row q w' off n => match (L[q]?).join with
      | some (.arr w2 els) => chk (fz && Nat.beq w' w && Nat.beq w2 w && !(memN q π)) (Cut els off n es ∧ Pur es ∧ K)
      | _ => False
    | _ => False
  | .slt w es, a, K => match a with
    | .nils => [] = es ∧ K
    | .slt w' es' => chk (Nat.beq w' w) (es' = es ∧ Pur es ∧ K)
    | _ => False
  | .imm cs, a, K => match a with
    | .imm ds => ems fz fe π L cs ds K
    | .ref q w' i f => match (L[q]?).join with
      | some (.box w2 e) => chk (fz && Nat.beq w' w2 && Nat.beq i 0 && !(memN q π)) (e.cells.drop f = cs ∧ Pur cs ∧ K)
      | _ => False
    | _ => False
  | .agg cs, a, K => match a with | .agg ds => ems fz fe π L cs ds K | _ => False
  | .tup cs, a, K => match a with | .tup ds => ems fz fe π L cs ds K | _ => False
  | .func fn fs gs, a, K => match a with
    | .func fn' fs' gs' => selB fe (fn' = fn ∧ ems fz fe π L fs fs' (ems fz fe π L gs gs' K)) (fn' = fn ∧ fs' = fs ∧ gs' = gs ∧ Pur fs ∧ Pur gs ∧ K)
    | _ => False
  | .ifc t v, a, K => match a with | .ifc t' v' => chk (Nat.beq t' t) (em fz fe π L v v' K) | _ => False
  | .raw v, a, K => match a with | .raw v' => v' = v ∧ K | _ => False
def ems (fz fe : Bool) (π : List Nat) (L : Store) : List AV → List AV → Prop → Prop
  | [], ds, K => match ds with | [] => K | _ => False
  | c :: cs, ds, K => match ds with | d :: ds => em fz fe π L c d (ems fz fe π L cs ds K) | _ => False
end
theorem Rep.pureI {w : World} {I I' : Nat → Prop} {ρ : List Nat} (ρ' : List Nat) (hI : ∀ b, I b → I' b) {v : Value} {a : AV} (h : Rep w I ρ v a) (hp : a.pur = true) : Rep w I' ρ' v a :=
  (h.pure ρ' hp).mono ⟨fun _ _ => rfl, hI, fun _ _ h => h, fun b C t h => ⟨C, h, rfl⟩⟩
/-- Where the objects of one state lie, of another one. -/
structure Ctx (fz : Bool) (w : World) (I : Nat → Prop) (ρ : List Nat) (L : Store) (I' : Nat → Prop) (ρ' : List Nat) (π : List Nat) : Prop where
  own : ∀ (p : Nat) (o : AO) (b : Nat), L[p]? = some (some o) → ρ[p]? = some b → ObjRel w I ρ b o
  hI : ∀ b, I b → I' b
  hπ : ∀ (i p b : Nat), π[i]? = some p → ρ[p]? = some b → ρ'[i]? = some b
  hz : fz = true → ∀ (p : Nat) (o : AO) (b : Nat), L[p]? = some (some o) → p ∉ π → ρ[p]? = some b → I' b
section
variable {fz fe : Bool} {w : World} {I : Nat → Prop} {ρ : List Nat} {L : Store} {I' : Nat → Prop} {ρ' : List Nat} {π : List Nat}
mutual
theorem em_ok (cx : Ctx fz w I ρ L I' ρ' π) : ∀ (c a : AV) (K : Prop), em fz fe π L c a K → (∀ v, Rep w I ρ v a → Rep w I' ρ' v c) ∧ K
  | .any, a, K, h => ⟨fun v _ => .any v, h⟩
  | .int k n, a, K, h => by
    simp only [em] at h
    split at h
    · obtain ⟨h1, h2, h3⟩ := chk_iff.1 h
      have h1 := eq_of_beq h1
      subst h1 h2
      exact ⟨fun v hv => by cases hv; exact .int _ _, h3⟩
    · exact h.elim
  | .bool b, a, K, h => by
    simp only [em] at h
    split at h
    · obtain ⟨h2, h3⟩ := h
      subst h2
      exact ⟨fun v hv => by cases hv; exact .bool _, h3⟩
    · exact h.elim
  | .str s, a, K, h => by
    simp only [em] at h
    split at h
    · obtain ⟨h2, h3⟩ := h
      subst h2
      exact ⟨fun v hv => by cases hv; exact .str _, h3⟩
    · exact h.elim
  | .nil, a, K, h => by
    simp only [em] at h
    split at h
    · exact ⟨fun v hv => by cases hv; exact .nil, h⟩
    · exact h.elim
  | .nils, a, K, h => by
    simp only [em] at h
    split at h
    · exact ⟨fun v hv => by cases hv; exact .nils, h⟩
    · exact h.elim
  | .nilf, a, K, h => by
    simp only [em] at h
    split at h
    · exact ⟨fun v hv => by cases hv; exact .nilf, h⟩
    · exact h.elim
  | .raw x, a, K, h => by
    simp only [em] at h
    split at h
    · obtain ⟨h2, h3⟩ := h
      subst h2
      exact ⟨fun v hv => by cases hv; exact .raw _, h3⟩
    · exact h.elim
  | .ref p wd i f, a, K, h => by
    simp only [em] at h
    split at h
    · split at h
      · rename_i q w' i' f' q' hp
        obtain ⟨h1, h2, h3⟩ := chk_iff.1 h
        simp only [Bool.and_eq_true, Nat.beq_eq] at h1
        obtain ⟨⟨rfl, rfl⟩, rfl⟩ := h1
        subst h2
        exact ⟨fun v hv => by
          cases hv with
          | ref _ _ _ _ b hb => exact .ref _ _ _ _ b (cx.hπ _ _ _ hp hb), h3⟩
      · exact h.elim
    · exact h.elim
  | .row p wd off n, a, K, h => by
    simp only [em] at h
    split at h
    · split at h
      · rename_i q w' off' n' q' hp
        obtain ⟨h1, h2, h2', h3⟩ := chk_iff.1 h
        simp only [Bool.and_eq_true, Nat.beq_eq] at h1
        obtain ⟨rfl, rfl⟩ := h1
        subst h2 h2'
        exact ⟨fun v hv => by
          cases hv with
          | row _ _ _ _ b c C t hb hn hB hC => exact .row _ _ _ _ b c C t (cx.hπ _ _ _ hp hb) hn hB hC, h3⟩
      · exact h.elim
    · exact h.elim
  | .map p, a, K, h => by
    simp only [em] at h
    split at h
    · split at h
      · rename_i q q' hp
        obtain ⟨h1, h3⟩ := chk_iff.1 h
        simp only [Nat.beq_eq] at h1
        subst h1
        exact ⟨fun v hv => by
          cases hv with
          | map _ b hb => exact .map _ b (cx.hπ _ _ _ hp hb), h3⟩
      · exact h.elim
    · exact h.elim
  | .yield p, a, K, h => by
    simp only [em] at h
    split at h
    · split at h
      · rename_i q q' hp
        obtain ⟨h1, h3⟩ := chk_iff.1 h
        simp only [Nat.beq_eq] at h1
        subst h1
        exact ⟨fun v hv => by
          cases hv with
          | yield _ b hb => exact .yield _ b (cx.hπ _ _ _ hp hb), h3⟩
      · exact h.elim
    · exact h.elim
  | .sl wd es, a, K, h => by
    simp only [em] at h
    split at h
    · obtain ⟨rfl, h3⟩ := h
      exact ⟨fun v hv => Sub.nils wd w I' ρ' v (by cases hv; exact .nils), h3⟩
    · obtain ⟨h1, rfl, h2, h3⟩ := chk_iff.1 h
      simp only [Nat.beq_eq] at h1
      subst h1
      exact ⟨fun v hv => hv.pureI ρ' cx.hI (by simpa [AV.pur] using h2.h), h3⟩
    · obtain ⟨h1, rfl, h2, h3⟩ := chk_iff.1 h
      simp only [Nat.beq_eq] at h1
      subst h1
      exact ⟨fun v hv => (Sub.slt _ _ _ _ _ _ hv).pureI ρ' cx.hI (by simpa [AV.pur] using h2.h), h3⟩
    · split at h
      · rename_i q w' off n o2 w2 els ho
        obtain ⟨h1, ⟨h2, h2'⟩, ⟨h4⟩, h3⟩ := chk_iff.1 h
        simp only [Bool.and_eq_true, Nat.beq_eq, Bool.not_eq_true'] at h1
        obtain ⟨⟨⟨hfz, e1⟩, e2⟩, hm⟩ := h1
        have e1 := e1.symm
        have e2 := e2.symm
        subst e1
        subst e2
        refine ⟨fun v hv => ?_, h3⟩
        have ho := oneat ho
        cases hv with
        | row _ _ _ _ b c C t hb hn hB hC =>
          obtain ⟨C', t', q1, q2, q3⟩ := cx.own _ _ b ho hb
          have hIb := cx.hz hfz _ _ _ ho (memN_false hm) hb
          rw [hB] at q1
          cases q1
          have hidx : ∀ (i : Nat) (e : AV), es[i]? = some e → els[off + i]? = some e := by
            intro i e he
            rw [← h2, List.getElem?_take] at he
            split at he
            · rwa [List.getElem?_drop] at he
            · cases he
          have hlen : es.length = n := by rw [← h2]; simp; omega
          refine Rep.sl (some ⟨b, off * wd, none⟩) ⟨b, off * wd, none⟩ n c wd _ (fun i j => (C[(off + i) * wd + j]?).getD undef) hlen.symm hn (.inr ⟨rfl, rfl, hIb⟩) (fun e he => ?_) (fun i j hi hj => ?_) (fun i e j cc he hc => ?_)
          · obtain ⟨i, hi⟩ := List.getElem?_of_mem he
            exact (q3 _ e (hidx i e hi)).1
          · obtain ⟨e, he⟩ : ∃ e, es[i]? = some e := ⟨_, List.getElem?_eq_getElem hi⟩
            obtain ⟨r1, r2⟩ := q3 _ e (hidx i e he)
            obtain ⟨u, hu, _⟩ := r2 j _ (List.getElem?_eq_getElem (by rw [r1]; exact hj))
            simp only [World.cell?, hB]
            rw [show off * wd + (i * wd + j) = (off + i) * wd + j from by rw [Nat.add_mul]; omega]
            simp [hu]
          · obtain ⟨u, hu, hr⟩ := (q3 _ e (hidx i e he)).2 j cc hc
            simp only [hu, Option.getD_some]
            exact hr.pureI ρ' cx.hI (pur_cells (purL_mem h4 (List.mem_of_getElem? he)) (List.mem_of_getElem? hc))
      · exact h.elim
    · exact h.elim
  | .slt wd es, a, K, h => by
    simp only [em] at h
    split at h
    · obtain ⟨rfl, h3⟩ := h
      exact ⟨fun v hv => Sub.nils_slt wd w I' ρ' v (by cases hv; exact .nils), h3⟩
    · obtain ⟨h1, rfl, h2, h3⟩ := chk_iff.1 h
      simp only [Nat.beq_eq] at h1
      subst h1
      exact ⟨fun v hv => hv.pureI ρ' cx.hI (by simpa [AV.pur] using h2.h), h3⟩
    · exact h.elim
  | .imm cs, a, K, h => by
    simp only [em] at h
    split at h
    · rename_i ds
      obtain ⟨hl, hr, hK⟩ := ems_ok cx cs ds K h
      refine ⟨fun v hv => ?_, hK⟩
      cases hv with
      | imm ad _ vs hs hIa hc hrep =>
        refine .imm ad cs vs hs (cx.hI _ hIa) (fun j hj => hc j (by omega)) fun j c hjc => ?_
        obtain ⟨d, hd⟩ : ∃ d, ds[j]? = some d := ⟨_, List.getElem?_eq_getElem (by have := (List.getElem?_eq_some_iff.1 hjc).1; omega)⟩
        exact hr j c d hjc hd _ (hrep j d hd)
    · split at h
      · rename_i q w' i f o2 w2 e ho
        obtain ⟨h1, h2, ⟨h4⟩, h3⟩ := chk_iff.1 h
        simp only [Bool.and_eq_true, Nat.beq_eq, Bool.not_eq_true'] at h1
        obtain ⟨⟨⟨hfz, e1⟩, e2⟩, hm⟩ := h1
        have ho := oneat ho
        refine ⟨fun v hv => ?_, h3⟩
        cases hv with
        | ref _ _ _ _ b hb =>
          obtain ⟨C', t', q1, q2, q3⟩ := cx.own _ _ b ho hb
          have hIb := cx.hz hfz _ _ _ ho (memN_false hm) hb
          obtain ⟨r1, r2⟩ := q3 0 e rfl
          subst e2
          refine .imm ⟨b, 0 * w' + f, none⟩ cs (fun j => (C'[f + j]?).getD undef) rfl hIb (fun j hj => ?_) (fun j c hjc => ?_)
          · obtain ⟨c, hc⟩ : ∃ c, cs[j]? = some c := ⟨_, List.getElem?_eq_getElem hj⟩
            rw [← h2, List.getElem?_drop] at hc
            obtain ⟨u, hu, _⟩ := r2 _ c hc
            simp only [World.cell?, q1]
            simp at hu ⊢
            rw [hu]
            rfl
          · have hc := hjc
            rw [← h2, List.getElem?_drop] at hc
            obtain ⟨u, hu, hr⟩ := r2 _ c hc
            have hu' : C'[f + j]? = some u := by simpa using hu
            simp only [hu', Option.getD_some]
            exact hr.pureI ρ' cx.hI (purL_mem h4 (List.mem_of_getElem? hjc))
      · exact h.elim
    · exact h.elim
  | .agg cs, a, K, h => by
    simp only [em] at h
    split at h
    · rename_i ds
      obtain ⟨hl, hr, hK⟩ := ems_ok cx cs ds K h
      refine ⟨fun v hv => ?_, hK⟩
      cases hv with
      | agg vs _ hl' hrep =>
        refine .agg vs cs (hl'.trans hl.symm) fun j u c hu hjc => ?_
        obtain ⟨d, hd⟩ : ∃ d, ds[j]? = some d := ⟨_, List.getElem?_eq_getElem (by have := (List.getElem?_eq_some_iff.1 hjc).1; omega)⟩
        exact hr j c d hjc hd _ (hrep j u d hu hd)
    · exact h.elim
  | .tup cs, a, K, h => by
    simp only [em] at h
    split at h
    · rename_i ds
      obtain ⟨hl, hr, hK⟩ := ems_ok cx cs ds K h
      refine ⟨fun v hv => ?_, hK⟩
      cases hv with
      | tup vs _ hl' hrep =>
        refine .tup vs cs (hl'.trans hl.symm) fun j u c hu hjc => ?_
        obtain ⟨d, hd⟩ : ∃ d, ds[j]? = some d := ⟨_, List.getElem?_eq_getElem (by have := (List.getElem?_eq_some_iff.1 hjc).1; omega)⟩
        exact hr j c d hjc hd _ (hrep j u d hu hd)
    · exact h.elim
  | .func fn cs es, a, K, h => by
    simp only [em] at h
    split at h
    · rename_i fn' ds gs
      rcases selB_cases h with h0 | h0
      · obtain ⟨rfl, h1⟩ := h0
        obtain ⟨hl, hr, h2⟩ := ems_ok cx cs ds _ h1
        obtain ⟨hl2, hr2, hK⟩ := ems_ok cx es gs K h2
        refine ⟨fun v hv => ?_, hK⟩
        cases hv with
        | func _ us vs _ _ hl' hl2' hrep hrep2 =>
          refine .func _ us vs cs es (hl'.trans hl.symm) (hl2'.trans hl2.symm) (fun j u c hu hjc => ?_) (fun j u c hu hjc => ?_)
          · obtain ⟨d, hd⟩ : ∃ d, ds[j]? = some d := ⟨_, List.getElem?_eq_getElem (by have := (List.getElem?_eq_some_iff.1 hjc).1; omega)⟩
            exact hr j c d hjc hd _ (hrep j u d hu hd)
          · obtain ⟨d, hd⟩ : ∃ d, gs[j]? = some d := ⟨_, List.getElem?_eq_getElem (by have := (List.getElem?_eq_some_iff.1 hjc).1; omega)⟩
            exact hr2 j c d hjc hd _ (hrep2 j u d hu hd)
      · obtain ⟨rfl, rfl, rfl, ⟨h1⟩, ⟨h2⟩, hK⟩ := h0
        exact ⟨fun v hv => hv.pureI ρ' cx.hI (by simp [AV.pur, h1, h2]), hK⟩
    · exact h.elim
  | .ifc t x, a, K, h => by
    simp only [em] at h
    split at h
    · rename_i t' v'
      obtain ⟨h1, h0⟩ := chk_iff.1 h
      simp only [Nat.beq_eq] at h1
      subst h1
      obtain ⟨hr, hK⟩ := em_ok cx x v' K h0
      refine ⟨fun v hv => ?_, hK⟩
      cases hv with
      | ifc _ u _ hu => exact .ifc _ u x (hr u hu)
    · exact h.elim
theorem ems_ok (cx : Ctx fz w I ρ L I' ρ' π) : ∀ (cs ds : List AV) (K : Prop), ems fz fe π L cs ds K → cs.length = ds.length ∧ (∀ (j : Nat) (c d : AV), cs[j]? = some c → ds[j]? = some d → ∀ v, Rep w I ρ v d → Rep w I' ρ' v c) ∧ K
  | [], ds, K, h => by
    simp only [ems] at h
    split at h
    · exact ⟨rfl, fun j c d hc => by simp at hc, h⟩
    · exact h.elim
  | c :: cs, ds, K, h => by
    simp only [ems] at h
    split at h
    · rename_i d ds
      obtain ⟨h1, h⟩ := em_ok cx c d _ h
      obtain ⟨h2, h3, h4⟩ := ems_ok cx cs ds K h
      refine ⟨by simp [h2], fun j c' d' hc hd => ?_, h4⟩
      cases j with
      | zero => simp at hc hd; subst hc hd; exact h1
      | succ j => exact h3 j c' d' (by simpa using hc) (by simpa using hd)
    · exact h.elim
end
end
/-- The places: the caller's first, none twice. -/
def prefB : Nat → Nat → List Nat → Bool
  | 0, _, _ => true
  | k + 1, i, p :: π => Nat.beq p i && prefB k (i + 1) π
  | _ + 1, _, [] => false
def nodupB : List Nat → Bool
  | [] => true
  | p :: π => !(memN p π) && nodupB π
def allLt (n : Nat) : List Nat → Bool
  | [] => true
  | p :: π => Nat.blt p n && allLt n π
def okπ (K n : Nat) (π : List Nat) : Bool := prefB K 0 π && allLt n π && nodupB π
theorem prefB_ok : ∀ (K i : Nat) (π : List Nat), prefB K i π = true → ∀ p, p < K → π[p]? = some (i + p)
  | 0, i, π, _, p, hp => by omega
  | K + 1, i, [], h, p, hp => by simp [prefB] at h
  | K + 1, i, q :: π, h, p, hp => by
    simp only [prefB, Bool.and_eq_true, Nat.beq_eq] at h
    cases p with
    | zero => simp [h.1]
    | succ p => rw [List.getElem?_cons_succ, prefB_ok K (i + 1) π h.2 p (by omega)]; congr 1; omega
theorem nodupB_ok : ∀ {π : List Nat}, nodupB π = true → π.Nodup
  | [], _ => List.nodup_nil
  | p :: π, h => by
    simp only [nodupB, Bool.and_eq_true, Bool.not_eq_true'] at h
    exact List.nodup_cons.2 ⟨memN_false h.1, nodupB_ok h.2⟩
theorem allLt_ok {n : Nat} : ∀ {π : List Nat}, allLt n π = true → ∀ p ∈ π, p < n
  | [], _, p, hp => by simp at hp
  | q :: π, h, p, hp => by
    simp only [allLt, Bool.and_eq_true, Nat.blt_eq] at h
    rcases List.mem_cons.1 hp with rfl | hp
    · exact h.1
    · exact allLt_ok h.2 p hp
def efr (fz fe : Bool) (π : List Nat) (L : Store) (fr : AFr) : List (Nat × AV) → Prop → Prop
  | [], K => K
  | (t, c) :: l, K => em fz fe π L c (aget fr t) (efr fz fe π L fr l K)
def eobj (fz fe : Bool) (π : List Nat) (L : Store) : AO → AO → Prop → Prop
  | .arr w es, o, K => match o with | .arr w' es' => chk (Nat.beq w' w) (es' = es ∧ Pur es ∧ K) | _ => False
  | .box w e, o, K => match o with
    | .box w' e' => match Nat.ble 100 w with
      | true => chk (Nat.beq w' w) (e' = e ∧ Pur [e] ∧ K)
      | false => chk (Nat.beq w' w && Nat.beq e.cells.length w) (ems fz fe π L e.cells e'.cells K)
    | _ => False
  | .mp c es, o, K => match o with | .mp c' es' => c' = c ∧ es' = es ∧ PurM es ∧ K | _ => False
  | .it p since seen last, o, K => match o with
    | .it q since' seen' last' => match π[p]? with
      | some q' => chk (Nat.beq q q') (since' = since ∧ seen' = seen ∧ last' = last ∧ K)
      | none => False
    | _ => False
  | .loop st pend n l ps as bd, o, K => match o with
    | .loop st' pend' n' l' ps' as' bd' => st' = st ∧ pend' = pend ∧ n' = n ∧ ps' = ps ∧ as' = as ∧ bd' = bd ∧ efr fz fe π L ⟨n', l'⟩ l K
    | _ => False
def eobjs (fz fe : Bool) (π : List Nat) (L : Store) : List Nat → Store → Prop → Prop
  | [], [], K => K
  | p :: ps, x :: xs, K => match x with
    | none => eobjs fz fe π L ps xs K
    | some o' => match (L[p]?).join with
      | some o => eobj fz fe π L o' o (eobjs fz fe π L ps xs K)
      | none => False
  | _, _, _ => False
section
variable {fz fe : Bool} {w : World} {I : Nat → Prop} {ρ : List Nat} {L : Store} {I' : Nat → Prop} {ρ' : List Nat} {π : List Nat}
theorem efr_ok (cx : Ctx fz w I ρ L I' ρ' π) {fr : AFr} : ∀ (l : List (Nat × AV)) (K : Prop), efr fz fe π L fr l K → (∀ (tmps : Array Value), (∀ t, Rep w I ρ (tmps.getD t undef) (aget fr t)) → ∀ t, Rep w I' ρ' (tmps.getD t undef) (agetL l t)) ∧ K
  | [], K, h => ⟨fun _ _ _ => .any _, h⟩
  | (t, c) :: l, K, h => by
    simp only [efr] at h
    obtain ⟨h1, h⟩ := em_ok cx _ _ _ h
    obtain ⟨h2, h3⟩ := efr_ok cx l K h
    refine ⟨fun tmps ht u => ?_, h3⟩
    simp only [agetL]
    split
    · rename_i e; subst e; exact h1 _ (ht _)
    · exact h2 tmps ht u
theorem eobj_ok (cx : Ctx fz w I ρ L I' ρ' π) : ∀ (o' o : AO) (K : Prop), eobj fz fe π L o' o K → (∀ b, ObjRel w I ρ b o → ObjRel w I' ρ' b o') ∧ K
  | .arr wd es, o, K, h => by
    simp only [eobj] at h
    split at h
    · obtain ⟨h1, rfl, ⟨h2⟩, h3⟩ := chk_iff.1 h
      simp only [Nat.beq_eq] at h1
      subst h1
      refine ⟨fun b ⟨C, t, q1, q2, q3⟩ => ⟨C, t, q1, q2, fun i e he => ⟨(q3 i e he).1, fun j c hc => ?_⟩⟩, h3⟩
      obtain ⟨v, hv, hr⟩ := (q3 i e he).2 j c hc
      exact ⟨v, hv, hr.pureI ρ' cx.hI (pur_cells (purL_mem h2 (List.mem_of_getElem? he)) (List.mem_of_getElem? hc))⟩
    · exact h.elim
  | .box wd e, o, K, h => by
    simp only [eobj] at h
    split at h
    · rename_i w' e'
      split at h
      · obtain ⟨h1, rfl, ⟨h2⟩, h3⟩ := chk_iff.1 h
        simp only [Nat.beq_eq] at h1
        subst h1
        refine ⟨fun b ⟨C, t, q1, q2, q3⟩ => ⟨C, t, q1, q2, fun i e he => ⟨(q3 i e he).1, fun j c hc => ?_⟩⟩, h3⟩
        obtain ⟨v, hv, hr⟩ := (q3 i e he).2 j c hc
        exact ⟨v, hv, hr.pureI ρ' cx.hI (pur_cells (purL_mem h2 (List.mem_of_getElem? he)) (List.mem_of_getElem? hc))⟩
      obtain ⟨h1, h0⟩ := chk_iff.1 h
      simp only [Bool.and_eq_true, Nat.beq_eq] at h1
      obtain ⟨rfl, hw⟩ := h1
      obtain ⟨hl, hr, hK⟩ := ems_ok cx _ _ _ h0
      refine ⟨fun b ⟨C, t, q1, q2, q3⟩ => ⟨C, t, q1, q2, fun i x hx => ?_⟩, hK⟩
      have hlt := (List.getElem?_eq_some_iff.1 hx).1
      simp at hlt
      subst hlt
      simp at hx
      subst hx
      obtain ⟨r1, r2⟩ := q3 0 e' rfl
      refine ⟨hw, fun j c hc => ?_⟩
      obtain ⟨d, hd⟩ : ∃ d, e'.cells[j]? = some d := ⟨_, List.getElem?_eq_getElem (by have := (List.getElem?_eq_some_iff.1 hc).1; omega)⟩
      obtain ⟨v, hv, hrep⟩ := r2 j d hd
      exact ⟨v, hv, hr j c d hc hd v hrep⟩
    · exact h.elim
  | .mp c es, o, K, h => by
    simp only [eobj] at h
    split at h
    · obtain ⟨rfl, rfl, ⟨h1⟩, h3⟩ := h
      refine ⟨fun b ⟨E, q1, q2, q3⟩ => ⟨E, q1, q2, fun i x e hx he => ?_⟩, h3⟩
      obtain ⟨r0, r1, r2⟩ := q3 i x e hx he
      have hp := h1 x (List.mem_of_getElem? hx)
      exact ⟨r0, r1.pureI ρ' cx.hI hp.1, r2.pureI ρ' cx.hI hp.2⟩
    · exact h.elim
  | .it p since seen last, o, K, h => by
    simp only [eobj] at h
    split at h
    · split at h
      · rename_i q s1 s2 s3 q' hp
        obtain ⟨h1, rfl, rfl, rfl, h3⟩ := chk_iff.1 h
        simp only [Nat.beq_eq] at h1
        subst h1
        exact ⟨fun b ⟨m, q1, q2⟩ => ⟨m, cx.hπ _ _ _ hp q1, q2⟩, h3⟩
      · exact h.elim
    · exact h.elim
  | .loop st pend n l ps as bd, o, K, h => by
    simp only [eobj] at h
    split at h
    · obtain ⟨rfl, rfl, rfl, rfl, rfl, rfl, h⟩ := h
      obtain ⟨h1, h2⟩ := efr_ok cx _ _ h
      exact ⟨fun b ⟨fn, tmps, D, q1, q2, q3⟩ => ⟨fn, tmps, D, q1, q2, fun t => h1 tmps q3 t⟩, h2⟩
    · exact h.elim
theorem eobjs_ok (cx : Ctx fz w I ρ L I' ρ' π) : ∀ (ps : List Nat) (L' : Store) (K : Prop), eobjs fz fe π L ps L' K → ps.length = L'.length ∧ (∀ (i p : Nat) (o' : AO), ps[i]? = some p → L'[i]? = some (some o') → ∃ o, L[p]? = some (some o) ∧ ∀ b, ObjRel w I ρ b o → ObjRel w I' ρ' b o') ∧ K
  | [], [], K, h => ⟨rfl, fun i p o' hp => by simp at hp, h⟩
  | [], _ :: _, K, h => h.elim
  | _ :: _, [], K, h => h.elim
  | p :: ps, x :: xs, K, h => by
    simp only [eobjs] at h
    split at h
    · obtain ⟨h1, h2, h3⟩ := eobjs_ok cx ps xs K h
      refine ⟨by simp [h1], fun i q o' hp ho => ?_, h3⟩
      cases i with
      | zero => simp at ho
      | succ i => exact h2 i q o' (by simpa using hp) (by simpa using ho)
    · rename_i o1
      split at h
      · rename_i o ho2
        obtain ⟨h0, h⟩ := eobj_ok cx _ _ _ h
        obtain ⟨h1, h2, h3⟩ := eobjs_ok cx ps xs K h
        refine ⟨by simp [h1], fun i q o' hp ho => ?_, h3⟩
        cases i with
        | zero =>
          simp at hp ho
          subst hp ho
          exact ⟨o, oneat ho2, h0⟩
        | succ i => exact h2 i q o' (by simpa using hp) (by simpa using ho)
      · exact h.elim
end
/-- One state is known as another one; then X. -/
def eVS (fe : Bool) (K : Nat) (π : List Nat) (fr : AFr) (L : Store) (l' : List (Nat × AV)) (L' : Store) (X : Prop) : Prop :=
  chk (okπ K L.length π) (eobjs true fe π L π L' (efr true fe π L fr l' X))
theorem ctx0 (fz : Bool) (L : Store) (π : List Nat) : Ctx fz default (fun _ => False) [] L (fun _ => True) [] π :=
  ⟨fun p o b _ h => by simp at h, fun _ _ => trivial, fun i p b _ h => by simp at h, fun _ _ _ _ _ _ _ => trivial⟩
theorem eVS_ok {fe : Bool} {K : Nat} {π : List Nat} {fr : AFr} {L : Store} {l' : List (Nat × AV)} {L' : Store} {X : Prop} (h : eVS fe K π fr L l' L' X) : VS K fr L ⟨fr.n, l'⟩ L' ∧ X := by
  obtain ⟨hk, h⟩ := chk_iff.1 h
  simp only [okπ, Bool.and_eq_true] at hk
  obtain ⟨⟨hk1, hk2⟩, hk3⟩ := hk
  have hnd := nodupB_ok hk3
  have hlt := allLt_ok hk2
  have hpre := prefB_ok K 0 π hk1
  refine ⟨fun w I ρ tmps h1 h2 => ?_, (efr_ok (ctx0 true L π) l' X (eobjs_ok (ctx0 true L π) π L' _ h).2.2).2⟩
  let ρ' : List Nat := π.map fun p => ρ.getD p 0
  let I' : Nat → Prop := fun b => I b ∨ ∃ (p : Nat) (o : AO), L[p]? = some (some o) ∧ ρ[p]? = some b ∧ p ∉ π
  have hρ : ∀ (i p : Nat), π[i]? = some p → ∃ b, ρ[p]? = some b ∧ ρ'[i]? = some b := by
    intro i p hp
    have := hlt p (List.mem_of_getElem? hp)
    rw [← h1.len] at this
    exact ⟨ρ[p], List.getElem?_eq_getElem this, by simp [ρ', List.getElem?_map, hp, this]⟩
  have hρ' : ∀ (i b : Nat), ρ'[i]? = some b → ∃ p, π[i]? = some p ∧ ρ[p]? = some b := by
    intro i b hb
    have hi := (List.getElem?_eq_some_iff.1 hb).1
    simp [ρ'] at hi
    obtain ⟨p, hp⟩ : ∃ p, π[i]? = some p := ⟨π[i], List.getElem?_eq_getElem hi⟩
    obtain ⟨b', q1, q2⟩ := hρ i p hp
    rw [q2] at hb
    cases hb
    exact ⟨p, hp, q1⟩
  have cx : Ctx true w I ρ L I' ρ' π := ⟨fun p o b ho hb => (h1.own p o b ho hb).2.2, fun b hb => .inl hb, fun i p b hp hb => by
    obtain ⟨b', q1, q2⟩ := hρ i p hp
    rw [hb] at q1
    cases q1
    exact q2, fun _ p o b ho hp hb => .inr ⟨p, o, ho, hb, hp⟩⟩
  obtain ⟨e1, e2, e3⟩ := eobjs_ok cx π L' _ h
  obtain ⟨e4, _⟩ := efr_ok cx l' X e3
  refine ⟨I', ρ', fun b hb => .inl hb, fun b hb => ?_, fun b hb => ?_, fun p hp => ?_, ⟨by simp [ρ', e1], fun i o' b hi hb => ?_, fun i j o o' b hi hj hbi hbj => ?_, fun b hb => ?_⟩, h2.1, fun t => e4 tmps h2.2 t⟩
  · rcases hb with hb | ⟨p, o, q1, q2, _⟩
    · exact .inl hb
    · exact .inr ⟨p, o, q1, q2⟩
  · obtain ⟨i, o', q1, q2⟩ := hb
    obtain ⟨p, hp, hpb⟩ := hρ' i b q2
    obtain ⟨o, ho, _⟩ := e2 i p o' hp q1
    exact ⟨p, o, ho, hpb⟩
  · have := hpre p hp
    rw [Nat.zero_add] at this
    obtain ⟨b, q1, q2⟩ := hρ p p this
    rw [q1, q2]
  · obtain ⟨p, hp, hpb⟩ := hρ' i b hb
    obtain ⟨o, ho, hr⟩ := e2 i p o' hp hi
    obtain ⟨a1, a2, a3⟩ := h1.own p o b ho hpb
    refine ⟨a1, fun hI => ?_, hr b a3⟩
    rcases hI with hI | ⟨q, oq, q1, q2, q3⟩
    · exact a2 hI
    · have := h1.inj p q o oq b ho q1 hpb q2
      subst this
      exact q3 (List.mem_of_getElem? hp)
  · obtain ⟨p, hp, hpb⟩ := hρ' i b hbi
    obtain ⟨q, hq, hqb⟩ := hρ' j b hbj
    obtain ⟨o1, ho1, _⟩ := e2 i p o hp hi
    obtain ⟨o2, ho2, _⟩ := e2 j q o' hq hj
    have : p = q := h1.inj p q o1 o2 b ho1 ho2 hpb hqb
    subst this
    exact (List.getElem?_inj (List.getElem?_eq_some_iff.1 hp).1 hnd).1 (hp.trans hq.symm)
  · rcases hb with hb | ⟨p, o, q1, q2, _⟩
    · exact h1.imm b hb
    · exact (h1.own p o b q1 q2).1
theorem TCall.frameG {P : Program} {f : FuncId} {args args' : List AV} {L Ls : Store} {R R' : AEnd → Store → Prop} (π : List Nat) (h : TCall P f args Ls R) (hd : π.Nodup) (hlen : π.length = Ls.length)
    (hobj : ∀ (i p : Nat), π[i]? = some p → p < L.length ∧ ∀ o, Ls[i]? = some (some o) → ∃ o', L[p]? = some (some o') ∧ (∀ (w : World) (I : Nat → Prop) (ρ ρs : List Nat) (b : Nat), Rel w I ρ L → (∀ (i p : Nat), π[i]? = some p → ∃ b, ρs[i]? = some b ∧ ρ[p]? = some b) → ObjRel w I ρ b o' → ObjRel w I ρs b o))
    (hal : args.length = args'.length) (hargs : ∀ (j : Nat) (a a' : AV), args[j]? = some a → args'[j]? = some a' → ∀ (w : World) (I : Nat → Prop) (ρ ρs : List Nat), Rel w I ρ L → (∀ (i p : Nat), π[i]? = some p → ∃ b, ρs[i]? = some b ∧ ρ[p]? = some b) → ∀ v, Rep w I ρ v a' → Rep w I ρs v a)
    (hR : ∀ x L', π.length ≤ L'.length → R x L' → R' (x.ren (news L π L')) (mergeL L π (news L π L') L')) : TCall P f args' L R' := by
  intro w I ρ vs h1 h2
  let ρs : List Nat := π.map fun p => ρ.getD p 0
  have hs : ∀ (i p : Nat), π[i]? = some p → ∃ b, ρs[i]? = some b ∧ ρ[p]? = some b := by
    intro i p hp
    have hlt := (hobj i p hp).1
    rw [← h1.len] at hlt
    refine ⟨ρ[p], ?_, List.getElem?_eq_getElem hlt⟩
    simp [ρs, List.getElem?_map, hp, hlt]
  have hρs : ∀ (i b : Nat), ρs[i]? = some b → ∃ p, π[i]? = some p ∧ ρ[p]? = some b := by
    intro i b hb
    have hi := (List.getElem?_eq_some_iff.1 hb).1
    simp [ρs] at hi
    obtain ⟨p, hp⟩ : ∃ p, π[i]? = some p := ⟨π[i], List.getElem?_eq_getElem hi⟩
    obtain ⟨b', q1, q2⟩ := hs i p hp
    rw [q1] at hb
    cases hb
    exact ⟨p, hp, q2⟩
  have hrel : Rel w I ρs Ls := by
    refine ⟨by simp [ρs, hlen], fun i o b hi hb => ?_, fun i j o o' b hi hj hbi hbj => ?_, h1.imm⟩
    · obtain ⟨p, hp, hpb⟩ := hρs i b hb
      obtain ⟨o', ho', hrn⟩ := (hobj i p hp).2 o hi
      obtain ⟨a1, a2, a3⟩ := h1.own p o' b ho' hpb
      exact ⟨a1, a2, hrn w I ρ ρs b h1 hs a3⟩
    · obtain ⟨p, hp, hpb⟩ := hρs i b hbi
      obtain ⟨q, hq, hqb⟩ := hρs j b hbj
      obtain ⟨o1, ho1, _⟩ := (hobj i p hp).2 o hi
      obtain ⟨o2, ho2, _⟩ := (hobj j q hq).2 o' hj
      have : p = q := h1.inj p q o1 o2 b ho1 ho2 hpb hqb
      subst this
      have hi' := (List.getElem?_eq_some_iff.1 hp).1
      have hj' := (List.getElem?_eq_some_iff.1 hq).1
      exact (List.getElem?_inj hi' hd).1 (hp.trans hq.symm)
  have hargs' : RepL w I ρs vs args := ⟨h2.1.trans hal.symm, fun j v a hv ha => by
    have hlt := (List.getElem?_eq_some_iff.1 ha).1
    have ha' : args'[j]? = some (args'[j]'(by omega)) := List.getElem?_eq_getElem (by omega)
    exact hargs j a _ ha ha' w I ρ ρs h1 hs v (h2.2 j v _ hv ha')⟩
  have hown : ∀ b, Owned ρs Ls b → Owned ρ L b := fun b ⟨i, o, hi, hb⟩ => by
    obtain ⟨p, hp, hpb⟩ := hρs i b hb
    obtain ⟨o', ho', _⟩ := (hobj i p hp).2 o hi
    exact ⟨p, o', ho', hpb⟩
  refine (h w I ρs vs hrel hargs').mono ?_
  rintro e w' ⟨x, L', I', ρ', hx, hq, r1, hρ', ev⟩
  have hge : π.length ≤ L'.length := by
    rw [← r1.len]
    rcases Nat.lt_or_ge ρ'.length π.length with hlt | hge
    · exfalso
      have hlt2 : ρ'.length < ρs.length := by simpa [ρs] using hlt
      have := hρ' ρ'.length _ (List.getElem?_eq_getElem hlt2)
      have := (List.getElem?_eq_some_iff.1 this).1
      omega
    · exact hge
  let ρ2 : List Nat := ρ ++ ρ'.drop π.length
  let π' := news L π L'
  have hsub : SubRho π' ρ' ρ2 := by
    intro i b hb
    have hi := (List.getElem?_eq_some_iff.1 hb).1
    by_cases hlt : i < π.length
    · obtain ⟨p, hp⟩ : ∃ p, π[i]? = some p := ⟨π[i], List.getElem?_eq_getElem hlt⟩
      obtain ⟨b', q1, q2⟩ := hs i p hp
      have := hρ' i b' q1
      rw [hb] at this
      cases this
      refine ⟨p, by simp only [π', news]; rw [List.getElem?_append_left hlt]; exact hp, ?_⟩
      simp only [ρ2]
      rw [List.getElem?_append_left (List.getElem?_eq_some_iff.1 q2).1]
      exact q2
    · refine ⟨L.length + (i - π.length), ?_, ?_⟩
      · simp only [π', news]
        rw [List.getElem?_append_right (by omega), List.getElem?_map, List.getElem?_range (by rw [← r1.len]; omega)]
        rfl
      · simp only [ρ2]
        rw [List.getElem?_append_right (by rw [h1.len]; omega), List.getElem?_drop, ← hb]
        congr 1
        rw [h1.len]
        omega
  have hle : Le w I ρ w' I' ρ2 := ⟨fun b hb => ev.keep b (h1.imm b hb) (fun ho => h1.free hb (hown b ho)), ev.imm, fun p b hp => by
      simp only [ρ2]
      rw [List.getElem?_append_left (List.getElem?_eq_some_iff.1 hp).1]; exact hp, ev.cells⟩
  -- what stands at a place
  have cs : ∀ (q : Nat) (o : AO) (b : Nat), (mergeL L π π' L')[q]? = some (some o) → ρ2[q]? = some b →
      (∃ i o', L'[i]? = some (some o') ∧ ρ'[i]? = some b ∧ o = o'.ren π' ∧ ((i < π.length ∧ π[i]? = some q) ∨ (π.length ≤ i ∧ q = L.length + (i - π.length)))) ∨
      (L[q]? = some (some o) ∧ ρ[q]? = some b ∧ q ∉ π ∧ q < L.length) := by
    intro q o b hq hb
    simp only [mergeL] at hq
    by_cases hlt : q < L.length
    · rw [List.getElem?_append_left (by simpa using hlt), List.getElem?_map, List.getElem?_range hlt] at hq
      simp only [Option.map_some, Option.some.injEq] at hq
      have hb1 : ρ[q]? = some b := by
        simp only [ρ2] at hb
        rwa [List.getElem?_append_left (by rw [h1.len]; exact hlt)] at hb
      cases hix : π.idxOf? q with
      | some i =>
        rw [hix] at hq
        have hmem := List.idxOf?_eq_some_iff.1 hix
        obtain ⟨hil, hiq, _⟩ := hmem
        have hiq' : π[i]? = some q := by rw [List.getElem?_eq_getElem hil]; simpa using hiq
        obtain ⟨b', q1, q2⟩ := hs i q hiq'
        rw [hb1] at q2
        cases q2
        cases hL' : L'[i]? with
        | none => simp [hL'] at hq
        | some y => cases y with
          | none => simp [hL'] at hq
          | some o' =>
            simp [hL'] at hq
            exact .inl ⟨i, o', hL', hρ' i b q1, hq.symm, .inl ⟨hil, hiq'⟩⟩
      | none =>
        rw [hix] at hq
        have hno : q ∉ π := by simpa [List.idxOf?_eq_none_iff] using hix
        cases hL : L[q]? with
        | none => simp [hL] at hq
        | some y => cases y with
          | none => simp [hL] at hq
          | some o' =>
            simp [hL] at hq
            subst hq
            exact .inr ⟨rfl, hb1, hno, hlt⟩
    · rw [List.getElem?_append_right (by simpa using hlt), List.length_map, List.length_range, List.getElem?_map, List.getElem?_drop] at hq
      cases hL' : L'[π.length + (q - L.length)]? with
      | none => simp [hL'] at hq
      | some y => cases y with
        | none => simp [hL'] at hq
        | some o' =>
          simp [hL'] at hq
          simp only [ρ2] at hb
          rw [List.getElem?_append_right (by rw [h1.len]; omega), List.getElem?_drop, h1.len] at hb
          exact .inl ⟨_, o', hL', hb, hq.symm, .inr ⟨by omega, by omega⟩⟩
  have hrel2 : Rel w' I' ρ2 (mergeL L π π' L') := by
    refine ⟨?_, fun q o b hq hb => ?_, fun q q' o o' b hq hq' hb hb' => ?_, r1.imm⟩
    · simp only [ρ2, mergeL]
      rw [List.length_append, List.length_append, List.length_map, List.length_range, List.length_map, List.length_drop, List.length_drop, h1.len, r1.len]
    · rcases cs q o b hq hb with ⟨i, o', k1, k2, rfl, _⟩ | ⟨k1, k2, k3, k4⟩
      · obtain ⟨a1, a2, a3⟩ := r1.own i o' b k1 k2
        exact ⟨a1, a2, a3.ren hsub⟩
      · obtain ⟨a1, a2, a3⟩ := h1.own q o b k1 k2
        have hno : ¬ Owned ρs Ls b := fun ⟨i, os, hi, hbi⟩ => by
          obtain ⟨p, hp, hpb⟩ := hρs i b hbi
          obtain ⟨o1, ho1, _⟩ := (hobj i p hp).2 os hi
          have : p = q := h1.inj p q o1 o b ho1 k1 hpb k2
          subst this
          exact k3 (List.mem_of_getElem? hp)
        refine ⟨Nat.lt_of_lt_of_le a1 ev.size, fun hI => ?_, a3.mono hle (ev.keep b a1 hno)⟩
        rcases ev.imm' b hI with y | y | y
        · exact a2 y
        · omega
        · exact hno y
    · rcases cs q o b hq hb with ⟨i, o1, k1, k2, _, k5⟩ | ⟨k1, k2, k3, k4⟩ <;> rcases cs q' o' b hq' hb' with ⟨i', o1', k1', k2', _, k5'⟩ | ⟨k1', k2', k3', k4'⟩
      · have hii : i = i' := r1.inj i i' o1 o1' b k1 k1' k2 k2'
        subst hii
        rcases k5 with ⟨_, k5⟩ | ⟨k5a, k5⟩ <;> rcases k5' with ⟨_, k5'⟩ | ⟨k5a', k5'⟩
        · rw [k5] at k5'; cases k5'; rfl
        · omega
        · omega
        · omega
      · exfalso
        rcases ev.own b ⟨i, o1, k1, k2⟩ with ⟨j, os, hj, hbj⟩ | hsz
        · obtain ⟨p, hp, hpb⟩ := hρs j b hbj
          obtain ⟨o2, ho2, _⟩ := (hobj j p hp).2 os hj
          have : p = q' := h1.inj p q' o2 o' b ho2 k1' hpb k2'
          subst this
          exact k3' (List.mem_of_getElem? hp)
        · have := (h1.own q' o' b k1' k2').1
          omega
      · exfalso
        rcases ev.own b ⟨i', o1', k1', k2'⟩ with ⟨j, os, hj, hbj⟩ | hsz
        · obtain ⟨p, hp, hpb⟩ := hρs j b hbj
          obtain ⟨o2, ho2, _⟩ := (hobj j p hp).2 os hj
          have : p = q := h1.inj p q o2 o b ho2 k1 hpb k2
          subst this
          exact k3 (List.mem_of_getElem? hp)
        · have := (h1.own q o b k1 k2).1
          omega
      · exact h1.inj q q' o o' b k1 k1' k2 k2'
  refine ⟨x.ren π', mergeL L π π' L', I', ρ2, ?_, hR x L' hge hq, hrel2, hle.rho, ⟨ev.os, ev.tape, ev.output, ev.size, fun b hb hn => ev.keep b hb (fun ho => hn (hown b ho)), ev.imm, fun b hb => ?_, fun b ⟨q, o, hq', hb⟩ => ?_, ev.cells, fun p hp => ?_⟩⟩
  · cases e with
    | returned v => cases x with
      | ret a => exact Rep.ren hsub hx
      | pan a => exact hx.elim
    | panicked ch => cases x with
      | ret a => exact hx.elim
      | pan a =>
        obtain ⟨v, rfl, hv⟩ := hx
        exact ⟨v, rfl, Rep.ren hsub hv⟩
    | outgrown => cases x <;> exact hx.elim
  · rcases ev.imm' b hb with y | y | y
    · exact .inl y
    · exact .inr (.inl y)
    · exact .inr (.inr (hown b y))
  · rcases cs q o b hq' hb with ⟨i, o1, k1, k2, _, _⟩ | ⟨k1, k2, _, _⟩
    · rcases ev.own b ⟨i, o1, k1, k2⟩ with y | y
      · exact .inl (hown b y)
      · exact .inr y
    · exact .inl ⟨q, o, k1, k2⟩
  · simp only [ρ2]
    exact List.getElem?_append_left (by rw [h1.len]; exact hp)
/-! Where a target's places come from, by search. -/
mutual
def mtc : AV → AV → List (Nat × Nat) → List (Nat × Nat)
  | .ref p _ _ _, a, acc => match a with | .ref q _ _ _ => (p, q) :: acc | _ => acc
  | .row p _ _ _, a, acc => match a with | .row q _ _ _ => (p, q) :: acc | _ => acc
  | .map p, a, acc => match a with | .map q => (p, q) :: acc | _ => acc
  | .yield p, a, acc => match a with | .yield q => (p, q) :: acc | _ => acc
  | .imm cs, a, acc => match a with | .imm ds => mts cs ds acc | _ => acc
  | .agg cs, a, acc => match a with | .agg ds => mts cs ds acc | _ => acc
  | .tup cs, a, acc => match a with | .tup ds => mts cs ds acc | _ => acc
  | .func _ fs gs, a, acc => match a with | .func _ fs' gs' => mts fs fs' (mts gs gs' acc) | _ => acc
  | .ifc _ v, a, acc => match a with | .ifc _ v' => mtc v v' acc | _ => acc
  | .sl _ _, _, acc => acc
  | .slt _ _, _, acc => acc
  | .any, _, acc => acc
  | .int _ _, _, acc => acc
  | .bool _, _, acc => acc
  | .str _, _, acc => acc
  | .nil, _, acc => acc
  | .nils, _, acc => acc
  | .nilf, _, acc => acc
  | .raw _, _, acc => acc
def mts : List AV → List AV → List (Nat × Nat) → List (Nat × Nat)
  | [], _, acc => acc
  | c :: cs, ds, acc => match ds with | d :: ds => mts cs ds (mtc c d acc) | [] => acc
end
def mtf (fr : AFr) : List (Nat × AV) → List (Nat × Nat) → List (Nat × Nat)
  | [], acc => acc
  | (t, c) :: l, acc => mtf fr l (mtc c (aget fr t) acc)
def mto : Option AO → Option AO → List (Nat × Nat) → List (Nat × Nat)
  | some (.box w e), o, acc => match Nat.ble 100 w with
    | true => acc
    | false => match o with | some (.box _ e') => mts e.cells e'.cells acc | _ => acc
  | some (.it p _ _ _), o, acc => match o with | some (.it q _ _ _) => (p, q) :: acc | _ => acc
  | some (.loop _ _ _ l _ _ _), o, acc => match o with | some (.loop _ _ n' l' _ _ _) => mtf ⟨n', l'⟩ l acc | _ => acc
  | _, _, acc => acc
def lk2 (l : List (Nat × Nat)) (p : Nat) : Option Nat := match l with
  | [] => none
  | (q, r) :: l => match Nat.beq p q with
    | true => some r
    | false => lk2 l p
def mtos (L : Store) : Nat → Store → List (Nat × Nat) → List (Nat × Nat)
  | _, [], acc => acc
  | i, x :: L', acc => mtos L (i + 1) L' (match lk2 acc i with
    | some q => mto x (L[q]?).join acc
    | none => acc)
def mtn (L L' : Store) : Store → List (Nat × Nat) → List (Nat × Nat)
  | [], acc => acc
  | _ :: l, acc => mtn L L' l (mtos L 0 L' acc)
def idn : Nat → List (Nat × Nat)
  | 0 => []
  | k + 1 => (k, k) :: idn k
def pis (acc : List (Nat × Nat)) : Nat → Store → List Nat
  | _, [] => []
  | i, _ :: l => (match lk2 acc i with | some q => q | none => i) :: pis acc (i + 1) l
def autoπ (K : Nat) (fr : AFr) (L : Store) (l' : List (Nat × AV)) (L' : Store) : List Nat :=
  pis (mtn L L' L' (mtf fr l' (idn K))) 0 L'
/-! The handles. -/
theorem eres_mono {T : TyOps} {fr : AFr} {L : Store} : ∀ {rs : List ResultVar} {K K' : List AV → Prop}, (∀ vs, K vs → K' vs) → eres T fr L rs K → eres T fr L rs K'
  | [], K, K', hK, h => hK _ h
  | .tmp t :: rs, K, K', hK, h => eres_mono (rs := rs) (fun vs h => hK _ h) h
  | .cell a ty :: rs, K, K', hK, h => eloadAt_mono (fun v h => eres_mono (rs := rs) (fun vs h => hK _ h) h) h
theorem aget0 (v : AV) : aget ⟨1, [(0, v)]⟩ 0 = v := rfl
/-- What a pure function hands back. -/
def ebodyP (T : TyOps) (rs : List ResultVar) (r : AV) : AEx → AFr → Store → Prop
  | .normal, fr, L => eres T fr L rs fun vs => em true false [] L r (aone vs) True
  | .ret, fr, L => eres T fr L rs fun vs => em true false [] L r (aone vs) True
  | _, _, _ => False
theorem ebodyP_ok {P : Program} {fn : Func} {r : AV} {x : AEx} {fr : AFr} {L : Store} (h : ebodyP (tyOf P) fn.results.toList r x fr L) : bodyQ P fn 0 (fun x L' => x = .ret r ∧ L' = []) x fr L := by
  have key : ∀ vs, em true false [] L r (aone vs) True → ∃ v' L', VSV 0 (aone vs) L v' L' ∧ AEnd.ret v' = .ret r ∧ L' = [] := fun vs h =>
    ⟨r, [], (eVS_ok (fe := false) (K := 0) (π := []) (fr := ⟨1, [(0, aone vs)]⟩) (L := L) (l' := [(0, r)]) (L' := []) (X := True) h).1, rfl, rfl⟩
  cases x <;> first | exact h.elim | exact eres_ok (eres_mono key h)
theorem TPure.ofE (A : Ar) {P : Program} {f : FuncId} {fn : Func} {c : Code} {args : List AV} {r : AV} (T : TyOps) (hT : T = tyOf P) (hf : P.funcs[f]? = some fn) (hb : fn.body = some c) (n : Nat) (hnt : fn.ntmps = n) (hn : args.length ≤ n)
    (h : ewp A T P none 0 c (ebodyP T fn.results.toList r) (frame0 n args) []) : TPure P f args r := by
  subst hT hnt
  exact TCall.pure (TCall.of_tw hf hb hn ((Tw.of_ewp _ _ _ _ h).mono fun e fr L hq => ebodyP_ok hq))
/-- A call's ends: one for each s of which C holds. -/
structure SCt (σ : Type) where
  C : σ → Prop
  v : σ → AV
  L : σ → Store
def SCt.R {σ : Type} (S : SCt σ) : AEnd → Store → Prop := fun x L' => ∃ s, S.C s ∧ x = .ret (S.v s) ∧ L' = S.L s
def TCS {σ : Type} (P : Program) (f : FuncId) (args : List AV) (L : Store) (S : SCt σ) : Prop := TC P f args L S.R
structure RS {σ : Type} (K : Nat) (S : SCt σ) (v : AV) (L : Store) : Prop where
  h : ∃ s, S.C s ∧ VSV K v L (S.v s) (S.L s)
theorem RS.of {σ : Type} {K : Nat} {S : SCt σ} {v : AV} {L : Store} (s : σ) (hC : S.C s) (h : eVS false K (autoπ K ⟨1, [(0, v)]⟩ L [(0, S.v s)] (S.L s)) ⟨1, [(0, v)]⟩ L [(0, S.v s)] (S.L s) True) : RS K S v L := ⟨s, hC, (eVS_ok h).1⟩
def ebodyS {σ : Type} (T : TyOps) (rs : List ResultVar) (K : Nat) (S : SCt σ) : AEx → AFr → Store → Prop
  | .normal, fr, L => eres T fr L rs fun vs => RS K S (aone vs) L
  | .ret, fr, L => eres T fr L rs fun vs => RS K S (aone vs) L
  | _, _, _ => False
theorem TCS.of {σ : Type} (A : Ar) {P : Program} {f : FuncId} {fn : Func} {c : Code} {args : List AV} {L : Store} (S : SCt σ) (T : TyOps) (hT : T = tyOf P) (hf : P.funcs[f]? = some fn) (hb : fn.body = some c) (n : Nat) (hnt : fn.ntmps = n) (hn : args.length ≤ n)
    (h : ewp A T P none L.length c (ebodyS T fn.results.toList L.length S) (frame0 n args) L) : TCS P f args L S := by
  subst hT hnt
  refine ⟨TCall.of_tw hf hb hn ((Tw.of_ewp _ _ _ _ h).mono fun e fr L' hq => ?_)⟩
  have key : ∀ vs, RS L.length S (aone vs) L' → ∃ v' L'', VSV L.length (aone vs) L' v' L'' ∧ S.R (.ret v') L'' := fun vs ⟨s, hC, h⟩ => ⟨_, _, h, s, hC, rfl, rfl⟩
  cases e <;> first | exact hq.elim | exact eres_ok (eres_mono key hq)
/-- A loop's states. -/
structure LI (σ : Type) where
  fr : σ → List (Nat × AV)
  st : σ → Store
  inv : σ → Prop
  m : σ → Nat
structure LM {σ : Type} (S : LI σ) (K n : Nat) (s : σ) (fr : AFr) (L : Store) : Prop where
  h : ∃ s', S.inv s' ∧ S.m s' < S.m s ∧ VS K fr L ⟨n, S.fr s'⟩ (S.st s')
theorem LM.of {σ : Type} {S : LI σ} {K n : Nat} {s : σ} {fr : AFr} {L : Store} (s' : σ) (hn : fr.n = n) (hi : S.inv s') (hm : S.m s' < S.m s) (h : eVS false K (autoπ K fr L (S.fr s') (S.st s')) fr L (S.fr s') (S.st s') True) : LM S K n s fr L :=
  ⟨s', hi, hm, hn ▸ (eVS_ok h).1⟩
theorem TW.loopM {σ : Type} (A : Ar) {T : TyOps} {P : Program} {r : Option Nat} {K : Nat} {c : Code} {Q : AEx → AFr → Store → Prop} {fr : AFr} {L : Store} (hT : T = tyOf P) (S : LI σ) (n : Nat) (hn : fr.n = n) (s0 : σ) (hi : S.inv s0)
    (hv : eVS false K (autoπ K fr L (S.fr s0) (S.st s0)) fr L (S.fr s0) (S.st s0) True)
    (round : ∀ s, S.inv s → ∀ (l1 : List (Nat × AV)) (L1 : Store), l1 = S.fr s → L1 = S.st s → ewp A T P r K c (thenQ (LM S K n s) Q) ⟨n, l1⟩ L1) : TW P r K (.loop c) Q fr L := by
  subst hT
  refine ⟨Tw.loop (fun m fr1 L1 => ∃ s, S.inv s ∧ m = S.m s ∧ fr1 = ⟨n, S.fr s⟩ ∧ L1 = S.st s) (n0 := S.m s0) (hn ▸ (eVS_ok hv).1) ⟨s0, hi, rfl, rfl, rfl⟩ ?_⟩
  rintro m fr1 L1 ⟨s, hs, rfl, rfl, rfl⟩
  refine (Tw.of_ewp _ _ _ _ (round s hs _ _ rfl rfl)).mono fun e fr2 L2 hq => ?_
  cases e <;> first | exact hq | skip
  obtain ⟨s', h1, h2, h3⟩ := hq
  exact ⟨S.m s', _, _, h2, h3, s', h1, rfl, rfl, rfl⟩
theorem LM.ofQ {σ : Type} {S : LI σ} {K n : Nat} {s : σ} {fr : AFr} {L : Store} (s' : σ) (hn : fr.n = n) (hi : S.inv s') (hm : S.m s' < S.m s) (h : eVS true K (autoπ K fr L (S.fr s') (S.st s')) fr L (S.fr s') (S.st s') True) : LM S K n s fr L :=
  ⟨s', hi, hm, hn ▸ (eVS_ok h).1⟩
theorem TW.loopQ {σ : Type} (A : Ar) {T : TyOps} {P : Program} {r : Option Nat} {K : Nat} {c : Code} {Q : AEx → AFr → Store → Prop} {fr : AFr} {L : Store} (hT : T = tyOf P) (S : LI σ) (n : Nat) (hn : fr.n = n) (s0 : σ) (hi : S.inv s0)
    (hv : eVS true K (autoπ K fr L (S.fr s0) (S.st s0)) fr L (S.fr s0) (S.st s0) True)
    (round : ∀ s, S.inv s → ∀ (l1 : List (Nat × AV)) (L1 : Store), l1 = S.fr s → L1 = S.st s → ewp A T P r K c (thenQ (LM S K n s) Q) ⟨n, l1⟩ L1) : TW P r K (.loop c) Q fr L := by
  subst hT
  refine ⟨Tw.loop (fun m fr1 L1 => ∃ s, S.inv s ∧ m = S.m s ∧ fr1 = ⟨n, S.fr s⟩ ∧ L1 = S.st s) (n0 := S.m s0) (hn ▸ (eVS_ok hv).1) ⟨s0, hi, rfl, rfl, rfl⟩ ?_⟩
  rintro m fr1 L1 ⟨s, hs, rfl, rfl, rfl⟩
  refine (Tw.of_ewp _ _ _ _ (round s hs _ _ rfl rfl)).mono fun e fr2 L2 hq => ?_
  cases e <;> first | exact hq | skip
  obtain ⟨s', h1, h2, h3⟩ := hq
  exact ⟨S.m s', _, _, h2, h3, s', h1, rfl, rfl, rfl⟩
/-- Between two statements what is known may be said otherwise. -/
theorem EW.vs {A : Ar} {T : TyOps} {P : Program} {r : Option Nat} {K : Nat} {c : Code} {Q : AEx → AFr → Store → Prop} {fr : AFr} {L : Store} (l' : List (Nat × AV)) (L' : Store) (n : Nat) (hn : fr.n = n) (h : eVS false K (autoπ K fr L l' L') fr L l' L' (ewp A T P r K c Q ⟨n, l'⟩ L')) : EW A T P r K c Q fr L := by
  obtain ⟨h1, h2⟩ := eVS_ok h
  subst hn
  exact ⟨fun e => by subst e; exact Tw.vs h1 (Tw.of_ewp _ _ _ _ h2)⟩
/-- A call of values. -/
theorem TC.pureE {P : Program} {f : FuncId} {args args' : List AV} {r : AV} {L : Store} {R : AEnd → Store → Prop} (h : TPure P f args r) (he : ems false false [] L args args' (R (.ret r) L)) : TC P f args' L R := by
  have hR := (ems_ok (ctx0 false L []) _ _ _ he).2.2
  refine ⟨fun w I ρ vs h1 h2 => ?_⟩
  have cx : Ctx false w I ρ L I [] [] := ⟨fun p o b ho hb => (h1.own p o b ho hb).2.2, fun _ h => h, fun i p b h => by simp at h, fun h => by cases h⟩
  obtain ⟨e1, e2, _⟩ := ems_ok cx _ _ _ he
  refine (h w I vs h1.imm ⟨h2.1.trans e1.symm, fun j v c hv hc => ?_⟩).mono fun e w' ⟨v, he, hv, hb⟩ => ?_
  · obtain ⟨d, hd⟩ : ∃ d, args'[j]? = some d := ⟨_, List.getElem?_eq_getElem (by have := (List.getElem?_eq_some_iff.1 hc).1; omega)⟩
    exact e2 j c d hc hd v (h2.2 j v d hv hd)
  · subst he
    obtain ⟨r1, r2⟩ := below_rel (K := L.length) h1 hb
    exact ⟨.ret r, L, _, ρ, Rep.mono ⟨fun _ _ => rfl, fun _ h => h, fun _ _ h => by simp at h, fun b C t h => ⟨C, h, rfl⟩⟩ hv, hR, r1, fun _ _ h => h, r2⟩
mutual
/-- Numbers, truths and texts alone. -/
def AV.plain : AV → Bool
  | .int _ _ => true
  | .bool _ => true
  | .str _ => true
  | .tup vs => plainL vs
  | .agg vs => plainL vs
  | _ => false
def plainL : List AV → Bool
  | [] => true
  | v :: vs => v.plain && plainL vs
end
theorem plainL_mem : ∀ {l : List AV} {a : AV}, plainL l = true → a ∈ l → a.plain = true
  | b :: l, a, h, hm => by
    simp only [plainL, Bool.and_eq_true] at h
    cases hm with
    | head => exact h.1
    | tail _ hm => exact plainL_mem h.2 hm
theorem Rep.plain {w w' : World} {I I' : Nat → Prop} {ρ ρ' : List Nat} {v : Value} {a : AV} (h : Rep w I ρ v a) : a.plain = true → Rep w' I' ρ' v a := by
  induction h with
  | int k n => exact fun _ => .int k n
  | bool b => exact fun _ => .bool b
  | str s => exact fun _ => .str s
  | tup vs cs hl hr ih => exact fun h => .tup vs cs hl (fun j v c hv hc => ih j v c hv hc (plainL_mem (by simpa [AV.plain] using h) (List.mem_of_getElem? hc)))
  | agg vs cs hl hr ih => exact fun h => .agg vs cs hl (fun j v c hv hc => ih j v c hv hc (plainL_mem (by simpa [AV.plain] using h) (List.mem_of_getElem? hc)))
  | _ => intro h; simp [AV.plain] at h
/-- A call of values that hands a plain value back: rows of ours may be read. -/
theorem TC.pureT {P : Program} {f : FuncId} {args args' : List AV} {r : AV} {L : Store} {R : AEnd → Store → Prop} (h : TPure P f args r) (hpl : r.plain = true) (he : ems true false [] L args args' (R (.ret r) L)) : TC P f args' L R := by
  have hR := (ems_ok (ctx0 true L []) _ _ _ he).2.2
  refine ⟨fun w I ρ vs h1 h2 => ?_⟩
  let I' : Nat → Prop := fun b => I b ∨ ∃ (p : Nat) (o : AO), L[p]? = some (some o) ∧ ρ[p]? = some b
  have cx : Ctx true w I ρ L I' [] [] := ⟨fun p o b ho hb => (h1.own p o b ho hb).2.2, fun _ h => .inl h, fun i p b h => by simp at h, fun _ p o b ho _ hb => .inr ⟨p, o, ho, hb⟩⟩
  obtain ⟨e1, e2, _⟩ := ems_ok cx _ _ _ he
  have hI' : ∀ b, I' b → b < w.heap.size := fun b hb => by
    rcases hb with hb | ⟨p, o, q1, q2⟩
    · exact h1.imm b hb
    · exact (h1.own p o b q1 q2).1
  refine (h w I' vs hI' ⟨h2.1.trans e1.symm, fun j v c hv hc => ?_⟩).mono fun e w' ⟨v, he, hv, hb⟩ => ?_
  · obtain ⟨d, hd⟩ : ∃ d, args'[j]? = some d := ⟨_, List.getElem?_eq_getElem (by have := (List.getElem?_eq_some_iff.1 hc).1; omega)⟩
    exact e2 j c d hc hd v (h2.2 j v d hv hd)
  · subst he
    obtain ⟨r1, r2⟩ := below_rel (K := L.length) h1 hb
    exact ⟨.ret r, L, _, ρ, hv.plain hpl, hR, r1, fun _ _ h => h, r2⟩
def lkD (π : List Nat) (p : Nat) : Nat := match π[p]? with
  | some q => q
  | none => 0
mutual
/-- A callee's value among the caller's objects. -/
def ern (π : List Nat) : AV → (AV → Prop) → Prop
  | .ref p w i f, K => K (.ref (lkD π p) w i f)
  | .row p w off n, K => K (.row (lkD π p) w off n)
  | .map p, K => K (.map (lkD π p))
  | .yield p, K => K (.yield (lkD π p))
  | .imm cs, K => erns π cs fun ds => K (.imm ds)
  | .sl w es, K => Pur es ∧ K (.sl w es)
  | .slt w es, K => Pur es ∧ K (.slt w es)
  | .agg cs, K => erns π cs fun ds => K (.agg ds)
  | .tup cs, K => erns π cs fun ds => K (.tup ds)
  | .func fn a b, K => erns π a fun a' => erns π b fun b' => K (.func fn a' b')
  | .ifc t v, K => ern π v fun v' => K (.ifc t v')
  | .any, K => K .any
  | .int k n, K => K (.int k n)
  | .bool b, K => K (.bool b)
  | .str s, K => K (.str s)
  | .nil, K => K .nil
  | .nils, K => K .nils
  | .nilf, K => K .nilf
  | .raw v, K => K (.raw v)
def erns (π : List Nat) : List AV → (List AV → Prop) → Prop
  | [], K => K []
  | a :: as, K => ern π a fun a' => erns π as fun as' => K (a' :: as')
end
theorem lkD_eq (π : List Nat) (p : Nat) : lkD π p = π.getD p 0 := by
  unfold lkD
  rw [List.getD_eq_getElem?_getD]
  cases π[p]? <;> rfl
mutual
theorem ern_ok (π : List Nat) : ∀ (v : AV) (K : AV → Prop), ern π v K → K (v.ren π)
  | .ref p w i f, K, h => by simp only [ern, lkD_eq] at h; exact h
  | .row p w off n, K, h => by simp only [ern, lkD_eq] at h; exact h
  | .map p, K, h => by simp only [ern, lkD_eq] at h; exact h
  | .yield p, K, h => by simp only [ern, lkD_eq] at h; exact h
  | .imm cs, K, h => erns_ok π cs _ h
  | .sl w es, K, h => by rw [AV.ren_pur π (.sl w es) (by simpa [AV.pur] using h.1.h)]; exact h.2
  | .slt w es, K, h => by rw [AV.ren_pur π (.slt w es) (by simpa [AV.pur] using h.1.h)]; exact h.2
  | .agg cs, K, h => erns_ok π cs _ h
  | .tup cs, K, h => erns_ok π cs _ h
  | .func fn a b, K, h => erns_ok π b _ (erns_ok π a _ h)
  | .ifc t v, K, h => ern_ok π v _ h
  | .any, K, h => h
  | .int k n, K, h => h
  | .bool b, K, h => h
  | .str s, K, h => h
  | .nil, K, h => h
  | .nils, K, h => h
  | .nilf, K, h => h
  | .raw v, K, h => h
theorem erns_ok (π : List Nat) : ∀ (vs : List AV) (K : List AV → Prop), erns π vs K → K (renL π vs)
  | [], K, h => h
  | a :: as, K, h => erns_ok π as _ (ern_ok π a _ h)
end
def ernF (π : List Nat) : List (Nat × AV) → (List (Nat × AV) → Prop) → Prop
  | [], K => K []
  | (t, v) :: l, K => ern π v fun v' => ernF π l fun l' => K ((t, v') :: l')
theorem ernF_ok (π : List Nat) : ∀ (l : List (Nat × AV)) (K : List (Nat × AV) → Prop), ernF π l K → K (l.map fun x => (x.1, x.2.ren π))
  | [], K, h => h
  | (t, v) :: l, K, h => ernF_ok π l _ (ern_ok π v _ h)
def ernO (π : List Nat) : AO → (AO → Prop) → Prop
  | .arr w es, K => Pur es ∧ K (.arr w es)
  | .box w e, K => match Nat.ble 100 w with
    | true => Pur [e] ∧ K (.box w e)
    | false => ern π e fun e' => K (.box w e')
  | .mp c es, K => PurM es ∧ K (.mp c es)
  | .it p since seen last, K => K (.it (lkD π p) since seen last)
  | .loop st pend n l ps as bd, K => ernF π l fun l' => K (.loop st pend n l' ps as bd)
theorem ernO_ok (π : List Nat) : ∀ (o : AO) (K : AO → Prop), ernO π o K → K (o.ren π)
  | .arr w es, K, h => by simp only [AO.ren, renL_pur π es h.1.h]; exact h.2
  | .box w e, K, h => by
    simp only [ernO] at h
    split at h
    · have hp := AV.ren_pur π e (purL_mem h.1.h (List.mem_cons_self))
      simp only [AO.ren, hp]
      exact h.2
    · exact ern_ok π e _ h
  | .mp c es, K, h => by
    have : es.map (fun x => (x.1, x.2.1.ren π, x.2.2.ren π)) = es := by
      conv => rhs; rw [← List.map_id es]
      refine List.map_congr_left fun x hx => ?_
      rw [AV.ren_pur π x.2.1 (h.1.h x hx).1, AV.ren_pur π x.2.2 (h.1.h x hx).2]
      rfl
    simp only [AO.ren, this]
    exact h.2
  | .it p since seen last, K, h => by simp only [ernO, lkD_eq] at h; exact h
  | .loop st pend n l ps as bd, K, h => ernF_ok π l _ h
def ernS (π : List Nat) : Store → (Store → Prop) → Prop
  | [], K => K []
  | none :: L, K => ernS π L fun L' => K (none :: L')
  | some o :: L, K => ernO π o fun o' => ernS π L fun L' => K (some o' :: L')
theorem ernS_ok (π : List Nat) : ∀ (L : Store) (K : Store → Prop), ernS π L K → K (L.map (·.map (·.ren π)))
  | [], K, h => h
  | none :: L, K, h => ernS_ok π L _ h
  | some o :: L, K, h => ernS_ok π L _ (ernO_ok π o _ h)
def ixOf (q : Nat) : List Nat → Nat → Option Nat
  | [], _ => none
  | p :: π, i => match Nat.beq p q with
    | true => some i
    | false => ixOf q π (i + 1)
def mergeA (π : List Nat) (M : Store) : Nat → Store → Store
  | _, [] => []
  | q, x :: L => (match ixOf q π 0 with
    | some i => (M[i]?).join
    | none => x) :: mergeA π M (q + 1) L
def mergeP (L : Store) (π : List Nat) (M : Store) : Store := mergeA π M 0 L ++ M.drop π.length
theorem ixOf_eq (q : Nat) : ∀ (π : List Nat) (i : Nat), ixOf q π i = (π.idxOf? q).map (· + i)
  | [], i => by simp [ixOf, List.idxOf?]
  | p :: π, i => by
    simp only [ixOf, List.idxOf?, List.findIdx?_cons]
    by_cases hpq : p = q
    · subst hpq; simp
    · have h1 : Nat.beq p q = false := by
        cases h : Nat.beq p q with
        | false => rfl
        | true => exact absurd (Nat.eq_of_beq_eq_true h) hpq
      have h2 : (p == q) = false := by simpa using hpq
      rw [h1, h2, ixOf_eq q π (i + 1)]
      simp only [List.idxOf?]
      cases List.findIdx? (fun x => x == q) π <;> simp <;> omega
theorem mergeA_get (π : List Nat) (M : Store) : ∀ (L : Store) (q i : Nat), (mergeA π M q L)[i]? = (L[i]?).map fun x => match π.idxOf? (q + i) with
    | some k => (M[k]?).join
    | none => x
  | [], q, i => by simp [mergeA]
  | x :: L, q, 0 => by
    simp only [mergeA, List.getElem?_cons_zero, Option.map_some, Nat.add_zero, ixOf_eq]
    cases π.idxOf? q <;> simp
  | x :: L, q, i + 1 => by
    simp only [mergeA, List.getElem?_cons_succ]
    rw [mergeA_get π M L (q + 1) i]
    have : q + 1 + i = q + (i + 1) := by omega
    rw [this]
theorem mergeP_eq (L : Store) (π π' : List Nat) (L' : Store) : mergeL L π π' L' = mergeP L π (L'.map (·.map (·.ren π'))) := by
  unfold mergeL mergeP
  rw [List.map_drop]
  congr 1
  apply List.ext_getElem?
  intro i
  rw [mergeA_get, List.getElem?_map]
  by_cases hi : i < L.length
  · rw [List.getElem?_range hi]
    simp only [Option.map_some, Nat.zero_add]
    obtain ⟨x, hx⟩ : ∃ x, L[i]? = some x := ⟨_, List.getElem?_eq_getElem hi⟩
    rw [hx]
    simp only [Option.map_some, Option.some.injEq, Option.join_some]
    cases π.idxOf? i with
    | none => rfl
    | some k =>
      simp only [List.getElem?_map]
      cases L'[k]? with
      | none => rfl
      | some y => cases y <;> rfl
  · rw [List.getElem?_eq_none (by simpa using hi), List.getElem?_eq_none (by simpa using hi)]
    rfl
def upN : Nat → Nat → List Nat
  | _, 0 => []
  | a, n + 1 => a :: upN (a + 1) n
def newsE (L : Store) (π : List Nat) (n : Nat) : List Nat := π ++ upN L.length (n - π.length)
theorem upN_eq : ∀ (n a : Nat), upN a n = (List.range n).map (a + ·)
  | 0, a => rfl
  | n + 1, a => by
    rw [upN, upN_eq n (a + 1), List.range_succ_eq_map]
    simp only [List.map_cons, List.map_map, Nat.add_zero, List.cons.injEq, true_and]
    refine List.map_congr_left fun x _ => ?_
    simp only [Function.comp]
    omega
/-- A call that leaves objects: its contract, at other places. -/
theorem TCS.call {σ : Type} {P : Program} {f : FuncId} {args args' : List AV} {L Ls : Store} {S : SCt σ} {R : AEnd → Store → Prop} (π : List Nat) (h : TCS P f args Ls S)
    (he : chk (okπ 0 L.length π) (eobjs false false π L π Ls (ems false false π L args args' (∀ s, S.C s → ∀ (v : AV) (L' : Store), v = S.v s → L' = S.L s → chk (Nat.ble π.length L'.length) (ern (newsE L π L'.length) v fun v' => ernS (newsE L π L'.length) L' fun M => R (.ret v') (mergeP L π M)))))) : TC P f args' L R := by
  obtain ⟨hk, he⟩ := chk_iff.1 he
  simp only [okπ, Bool.and_eq_true] at hk
  obtain ⟨⟨_, hk2⟩, hk3⟩ := hk
  obtain ⟨e1, _, e3⟩ := eobjs_ok (ctx0 false L π) _ _ _ he
  obtain ⟨a1, _, hR⟩ := ems_ok (ctx0 false L π) _ _ _ e3
  have mk : ∀ (w : World) (I : Nat → Prop) (ρ ρs : List Nat), Rel w I ρ L → (∀ (i p : Nat), π[i]? = some p → ∃ b, ρs[i]? = some b ∧ ρ[p]? = some b) → Ctx false w I ρ L I ρs π := fun w I ρ ρs h1 hs =>
    ⟨fun p o b ho hb => (h1.own p o b ho hb).2.2, fun _ h => h, fun i p b hp hb => by
      obtain ⟨b', q1, q2⟩ := hs i p hp
      rw [hb] at q2
      cases q2
      exact q1, fun h => by cases h⟩
  refine ⟨TCall.frameG π h.h (nodupB_ok hk3) e1 (fun i p hp => ⟨allLt_ok hk2 p (List.mem_of_getElem? hp), fun o ho => ?_⟩) a1 (fun j a a' ha ha' w I ρ ρs h1 hs v hv => ?_) (fun x L' hle hx => ?_)⟩
  · obtain ⟨o1, ho1, _⟩ := (eobjs_ok (ctx0 false L π) _ _ _ he).2.1 i p o hp ho
    refine ⟨o1, ho1, fun w I ρ ρs b h1 hs hb => ?_⟩
    obtain ⟨o2, ho2, hr⟩ := (eobjs_ok (mk w I ρ ρs h1 hs) _ _ _ he).2.1 i p o hp ho
    rw [ho1] at ho2
    cases ho2
    exact hr b hb
  · exact (ems_ok (mk w I ρ ρs h1 hs) _ _ _ e3).2.1 j a a' ha ha' v hv
  · obtain ⟨s, hC, rfl, rfl⟩ := hx
    have h1 := (chk_iff.1 (hR s hC _ _ rfl rfl)).2
    have h2 := ernS_ok _ _ _ (ern_ok _ _ _ h1)
    have hn : newsE L π (S.L s).length = news L π (S.L s) := by unfold newsE news; rw [upN_eq]
    rw [hn] at h2
    rw [mergeP_eq]
    exact h2
end Go.Proofs.Ytaieiigfheabfaa.Tw

/-! More handles. -/
namespace Go.Proofs.Ytaieiigfheabfaa.Tw
open Go.RowKit
set_option linter.unusedVariables false
mutual
theorem em_mono {fz fe : Bool} {π : List Nat} {L : Store} {K K' : Prop} (hK : K → K') : ∀ (c a : AV), em fz fe π L c a K → em fz fe π L c a K'
  | .any, a, h => hK h
  | .int k n, a, h => by
    simp only [em] at h ⊢
    split at h <;> first | exact h.elim | exact chk_iff.2 ⟨(chk_iff.1 h).1, (chk_iff.1 h).2.1, hK (chk_iff.1 h).2.2⟩
  | .bool b, a, h => by
    simp only [em] at h ⊢
    split at h <;> first | exact h.elim | exact ⟨h.1, hK h.2⟩
  | .str s, a, h => by
    simp only [em] at h ⊢
    split at h <;> first | exact h.elim | exact ⟨h.1, hK h.2⟩
  | .nil, a, h => by
    simp only [em] at h ⊢
    split at h <;> first | exact h.elim | exact hK h
  | .nils, a, h => by
    simp only [em] at h ⊢
    split at h <;> first | exact h.elim | exact hK h
  | .nilf, a, h => by
    simp only [em] at h ⊢
    split at h <;> first | exact h.elim | exact hK h
  | .raw x, a, h => by
    simp only [em] at h ⊢
    split at h <;> first | exact h.elim | exact ⟨h.1, hK h.2⟩
  | .ref p wd i f, a, h => by
    simp only [em] at h ⊢
    split at h
    · split at h <;> first | exact h.elim | exact chk_iff.2 ⟨(chk_iff.1 h).1, (chk_iff.1 h).2.1, hK (chk_iff.1 h).2.2⟩
    · exact h.elim
  | .row p wd off n, a, h => by
    simp only [em] at h ⊢
    split at h
    · split at h <;> first | exact h.elim | exact chk_iff.2 ⟨(chk_iff.1 h).1, (chk_iff.1 h).2.1, (chk_iff.1 h).2.2.1, hK (chk_iff.1 h).2.2.2⟩
    · exact h.elim
  | .map p, a, h => by
    simp only [em] at h ⊢
    split at h
    · split at h <;> first | exact h.elim | exact chk_iff.2 ⟨(chk_iff.1 h).1, hK (chk_iff.1 h).2⟩
    · exact h.elim
  | .yield p, a, h => by
    simp only [em] at h ⊢
    split at h
    · split at h <;> first | exact h.elim | exact chk_iff.2 ⟨(chk_iff.1 h).1, hK (chk_iff.1 h).2⟩
    · exact h.elim
  | .sl wd es, a, h => by
    simp only [em] at h ⊢
    split at h
    · exact ⟨h.1, hK h.2⟩
    · exact chk_iff.2 ⟨(chk_iff.1 h).1, (chk_iff.1 h).2.1, (chk_iff.1 h).2.2.1, hK (chk_iff.1 h).2.2.2⟩
    · exact chk_iff.2 ⟨(chk_iff.1 h).1, (chk_iff.1 h).2.1, (chk_iff.1 h).2.2.1, hK (chk_iff.1 h).2.2.2⟩
    · split at h
      · exact chk_iff.2 ⟨(chk_iff.1 h).1, (chk_iff.1 h).2.1, (chk_iff.1 h).2.2.1, hK (chk_iff.1 h).2.2.2⟩
      · exact h.elim
    · exact h.elim
  | .slt wd es, a, h => by
    simp only [em] at h ⊢
    split at h
    · exact ⟨h.1, hK h.2⟩
    · exact chk_iff.2 ⟨(chk_iff.1 h).1, (chk_iff.1 h).2.1, (chk_iff.1 h).2.2.1, hK (chk_iff.1 h).2.2.2⟩
    · exact h.elim
  | .imm cs, a, h => by
    simp only [em] at h ⊢
    split at h
    · exact ems_mono hK _ _ h
    · split at h
      · exact chk_iff.2 ⟨(chk_iff.1 h).1, (chk_iff.1 h).2.1, (chk_iff.1 h).2.2.1, hK (chk_iff.1 h).2.2.2⟩
      · exact h.elim
    · exact h.elim
  | .agg cs, a, h => by
    simp only [em] at h ⊢
    split at h <;> first | exact h.elim | exact ems_mono hK _ _ h
  | .tup cs, a, h => by
    simp only [em] at h ⊢
    split at h <;> first | exact h.elim | exact ems_mono hK _ _ h
  | .func fn cs es, a, h => by
    simp only [em] at h ⊢
    split at h
    · exact selB_mono (fun h => ⟨h.1, ems_mono (fun h => ems_mono hK _ _ h) _ _ h.2⟩) (fun h => ⟨h.1, h.2.1, h.2.2.1, h.2.2.2.1, h.2.2.2.2.1, hK h.2.2.2.2.2⟩) h
    · exact h.elim
  | .ifc t x, a, h => by
    simp only [em] at h ⊢
    split at h <;> first | exact h.elim | exact chk_iff.2 ⟨(chk_iff.1 h).1, em_mono hK _ _ (chk_iff.1 h).2⟩
theorem ems_mono {fz fe : Bool} {π : List Nat} {L : Store} {K K' : Prop} (hK : K → K') : ∀ (cs ds : List AV), ems fz fe π L cs ds K → ems fz fe π L cs ds K'
  | [], ds, h => by
    simp only [ems] at h ⊢
    split at h <;> first | exact h.elim | exact hK h
  | c :: cs, ds, h => by
    simp only [ems] at h ⊢
    split at h <;> first | exact h.elim | exact em_mono (fun h => ems_mono hK _ _ h) _ _ h
end
theorem efr_mono {fz fe : Bool} {π : List Nat} {L : Store} {fr : AFr} {K K' : Prop} (hK : K → K') : ∀ (l : List (Nat × AV)), efr fz fe π L fr l K → efr fz fe π L fr l K'
  | [], h => hK h
  | (t, c) :: l, h => em_mono (fun h => efr_mono hK l h) _ _ h
theorem eobj_mono {fz fe : Bool} {π : List Nat} {L : Store} {K K' : Prop} (hK : K → K') : ∀ (o' o : AO), eobj fz fe π L o' o K → eobj fz fe π L o' o K'
  | .arr wd es, o, h => by
    simp only [eobj] at h ⊢
    split at h <;> first | exact h.elim | exact chk_iff.2 ⟨(chk_iff.1 h).1, (chk_iff.1 h).2.1, (chk_iff.1 h).2.2.1, hK (chk_iff.1 h).2.2.2⟩
  | .box wd e, o, h => by
    simp only [eobj] at h ⊢
    split at h
    · split at h
      · exact chk_iff.2 ⟨(chk_iff.1 h).1, (chk_iff.1 h).2.1, (chk_iff.1 h).2.2.1, hK (chk_iff.1 h).2.2.2⟩
      · exact chk_iff.2 ⟨(chk_iff.1 h).1, ems_mono hK _ _ (chk_iff.1 h).2⟩
    · exact h.elim
  | .mp c es, o, h => by
    simp only [eobj] at h ⊢
    split at h <;> first | exact h.elim | exact ⟨h.1, h.2.1, h.2.2.1, hK h.2.2.2⟩
  | .it p since seen last, o, h => by
    simp only [eobj] at h ⊢
    split at h
    · split at h <;> first | exact h.elim | exact chk_iff.2 ⟨(chk_iff.1 h).1, (chk_iff.1 h).2.1, (chk_iff.1 h).2.2.1, (chk_iff.1 h).2.2.2.1, hK (chk_iff.1 h).2.2.2.2⟩
    · exact h.elim
  | .loop st pend n l ps as bd, o, h => by
    simp only [eobj] at h ⊢
    split at h <;> first | exact h.elim | exact ⟨h.1, h.2.1, h.2.2.1, h.2.2.2.1, h.2.2.2.2.1, h.2.2.2.2.2.1, efr_mono hK _ h.2.2.2.2.2.2⟩
theorem eobjs_mono {fz fe : Bool} {π : List Nat} {L : Store} {K K' : Prop} (hK : K → K') : ∀ (ps : List Nat) (L' : Store), eobjs fz fe π L ps L' K → eobjs fz fe π L ps L' K'
  | [], [], h => hK h
  | [], _ :: _, h => h.elim
  | _ :: _, [], h => h.elim
  | p :: ps, x :: xs, h => by
    simp only [eobjs] at h ⊢
    split at h
    · exact eobjs_mono hK ps xs h
    · split at h
      · exact eobj_mono (fun h => eobjs_mono hK ps xs h) _ _ h
      · exact h.elim
theorem TPure.adj {P : Program} {f : FuncId} {args args' : List AV} {r : AV} (h : TPure P f args r) (he : ems false false [] [] args args' True) : TPure P f args' r := by
  intro w I vs hI hv
  have cx : Ctx false w I [] [] I [] [] := ⟨fun p o b ho hb => by simp at hb, fun _ h => h, fun i p b h => by simp at h, fun h => by cases h⟩
  obtain ⟨e1, e2, _⟩ := ems_ok cx _ _ _ he
  refine h w I vs hI ⟨hv.1.trans e1.symm, fun j v c hj hc => ?_⟩
  obtain ⟨d, hd⟩ : ∃ d, args'[j]? = some d := ⟨_, List.getElem?_eq_getElem (by have := (List.getElem?_eq_some_iff.1 hc).1; omega)⟩
  exact e2 j c d hc hd v (hv.2 j v d hj hd)
theorem TC.pureX {P : Program} {f : FuncId} {args args' : List AV} {r : AV} {L : Store} (h : TPure P f args r) (he : ems false false [] L args args' True) : TC P f args' L fun x L' => x = .ret r ∧ L' = L :=
  TC.pureE h (ems_mono (fun _ => ⟨rfl, rfl⟩) _ _ he)
theorem TC.pureXT {P : Program} {f : FuncId} {args args' : List AV} {r : AV} {L : Store} (h : TPure P f args r) (hp : r.plain = true) (he : ems true false [] L args args' True) : TC P f args' L fun x L' => x = .ret r ∧ L' = L :=
  TC.pureT h hp (ems_mono (fun _ => ⟨rfl, rfl⟩) _ _ he)
/-- The objects zs are gone. -/
def killL (zs : List Nat) : Nat → Store → Store
  | _, [] => []
  | i, x :: L => (match memN i zs with | true => none | false => x) :: killL zs (i + 1) L
def comp (zs : List Nat) : Nat → Store → List Nat
  | _, [] => []
  | i, _ :: L => match memN i zs with | true => comp zs (i + 1) L | false => i :: comp zs (i + 1) L
theorem memN_true {p : Nat} : ∀ {l : List Nat}, memN p l = true → p ∈ l
  | q :: l, h => by
    simp only [memN] at h
    split at h
    · rename_i hq; have := Nat.eq_of_beq_eq_true hq; subst this; simp
    · exact List.mem_cons_of_mem _ (memN_true h)
theorem killL_get (zs : List Nat) : ∀ (L : Store) (i p : Nat) (o : AO), (killL zs i L)[p]? = some (some o) → L[p]? = some (some o) ∧ i + p ∉ zs
  | [], i, p, o, h => by simp [killL] at h
  | x :: L, i, 0, o, h => by
    simp only [killL, List.getElem?_cons_zero, Option.some.injEq] at h
    split at h
    · cases h
    · rename_i hm; subst h; exact ⟨rfl, memN_false hm⟩
  | x :: L, i, p + 1, o, h => by
    simp only [killL, List.getElem?_cons_succ] at h
    have := killL_get zs L (i + 1) p o h
    refine ⟨by simpa using this.1, ?_⟩
    have h2 := this.2
    rwa [show i + 1 + p = i + (p + 1) from by omega] at h2
theorem killL_len (zs : List Nat) : ∀ (L : Store) (i : Nat), (killL zs i L).length = L.length
  | [], _ => rfl
  | x :: L, i => by simp [killL, killL_len zs L (i + 1)]
theorem comp_mem (zs : List Nat) : ∀ (L : Store) (i p : Nat), p < L.length → i + p ∉ comp zs i L → i + p ∈ zs
  | [], i, p, h, _ => by simp at h
  | x :: L, i, 0, h, hn => by
    simp only [comp] at hn
    split at hn
    · rename_i hm; simpa using memN_true hm
    · simp at hn
  | x :: L, i, p + 1, h, hn => by
    have := comp_mem zs L (i + 1) p (by simpa using h)
    rw [show i + 1 + p = i + (p + 1) from by omega] at this
    refine this ?_
    simp only [comp] at hn
    split at hn
    · exact hn
    · simpa using hn
/-- A call of values to which objects of ours are handed for good. -/
theorem TC.pureF {P : Program} {f : FuncId} {args args' : List AV} {r : AV} {L : Store} {R : AEnd → Store → Prop} (zs : List Nat) (h : TPure P f args r) (hp : purL args = true) (he : ems true false (comp zs 0 L) L args args' (R (.ret r) (killL zs 0 L))) : TC P f args' L R := by
  have hR := (ems_ok (ctx0 true L _) _ _ _ he).2.2
  refine ⟨fun w I ρ vs h1 h2 => ?_⟩
  let I' : Nat → Prop := fun b => I b ∨ ∃ (p : Nat) (o : AO), L[p]? = some (some o) ∧ ρ[p]? = some b ∧ p ∈ zs
  have cx : Ctx true w I ρ L I' ((comp zs 0 L).map fun p => ρ.getD p 0) (comp zs 0 L) := ⟨fun p o b ho hb => (h1.own p o b ho hb).2.2, fun _ h => .inl h, fun i p b h hb => by
    rw [List.getElem?_map, h]
    simp [List.getD_eq_getElem?_getD, hb], fun _ p o b ho hp hb => .inr ⟨p, o, ho, hb, by
      have := comp_mem zs L 0 p (List.getElem?_eq_some_iff.1 ho).1
      rw [Nat.zero_add] at this
      exact this hp⟩⟩
  obtain ⟨e1, e2, _⟩ := ems_ok cx _ _ _ he
  have hI' : ∀ b, I' b → b < w.heap.size := fun b hb => by
    rcases hb with hb | ⟨p, o, q1, q2, _⟩
    · exact h1.imm b hb
    · exact (h1.own p o b q1 q2).1
  have hle : Le w I ρ w I' ρ := ⟨fun _ _ => rfl, fun _ h => .inl h, fun _ _ h => h, fun b C t h => ⟨C, h, rfl⟩⟩
  have hrel : Rel w I' ρ (killL zs 0 L) := by
    refine ⟨by rw [killL_len]; exact h1.len, fun p o b hp hb => ?_, fun p q o o' b hp hq hb hb' => h1.inj p q o o' b (killL_get zs L 0 p o hp).1 (killL_get zs L 0 q o' hq).1 hb hb', hI'⟩
    obtain ⟨k1, k2⟩ := killL_get zs L 0 p o hp
    obtain ⟨a1, a2, a3⟩ := h1.own p o b k1 hb
    refine ⟨a1, fun hI => ?_, a3.mono hle rfl⟩
    rcases hI with hI | ⟨q, oq, q1, q2, q3⟩
    · exact a2 hI
    · have := h1.inj p q o oq b k1 q1 hb q2
      subst this
      rw [Nat.zero_add] at k2
      exact k2 q3
  have hev : Ev L.length w I ρ L w I' ρ (killL zs 0 L) := ⟨rfl, rfl, rfl, Nat.le_refl _, fun _ _ _ => rfl, fun _ h => .inl h, fun b hb => by
    rcases hb with hb | ⟨p, o, q1, q2, _⟩
    · exact .inl hb
    · exact .inr (.inr ⟨p, o, q1, q2⟩), fun b ⟨p, o, q1, q2⟩ => .inl ⟨p, o, (killL_get zs L 0 p o q1).1, q2⟩, fun b C t h => ⟨C, h, rfl⟩, fun _ _ => rfl⟩
  refine (h w I' vs hI' ⟨h2.1.trans e1.symm, fun j v c hv hc => ?_⟩).mono fun e w' ⟨v, he, hv, hb⟩ => ?_
  · obtain ⟨d, hd⟩ : ∃ d, args'[j]? = some d := ⟨_, List.getElem?_eq_getElem (by have := (List.getElem?_eq_some_iff.1 hc).1; omega)⟩
    exact (e2 j c d hc hd v (h2.2 j v d hv hd)).pure [] (purL_mem hp (List.mem_of_getElem? hc))
  · subst he
    obtain ⟨r1, r2⟩ := below_rel (K := L.length) hrel hb
    refine ⟨.ret r, killL zs 0 L, _, ρ, Rep.mono ⟨fun _ _ => rfl, fun _ h => h, fun _ _ h => by simp at h, fun b C t h => ⟨C, h, rfl⟩⟩ hv, hR, r1, fun _ _ h => h, ?_⟩
    exact hev.trans r2
/-- A test that is so. -/
theorem byes {b : Bool} {X Y : Prop} : b = true → X → (match b with | true => X | false => Y) := fun h hx => by
  subst h
  exact hx
theorem bno {b : Bool} {X Y : Prop} : b = false → Y → (match b with | true => X | false => Y) := fun h hx => by
  subst h
  exact hx
theorem eqT {A : Ar} {a b : Int} (h : a = b) : A.eq a b = true := by rw [A.ok_eq]; simpa using h
theorem eqF {A : Ar} {a b : Int} (h : a ≠ b) : A.eq a b = false := by rw [A.ok_eq]; simpa using h
theorem beqT {A : Ar} {a b : Bool} (h : a = b) : A.beq a b = true := by rw [A.ok_beq]; simpa using h
theorem neF {A : Ar} {a b : Int} (h : a = b) : A.bnot (A.eq a b) = false := by rw [A.ok_bnot, eqT h]; rfl
theorem neT {A : Ar} {a b : Int} (h : a ≠ b) : A.bnot (A.eq a b) = true := by rw [A.ok_bnot, eqF h]; rfl
theorem nbF {A : Ar} {a b : Bool} (h : a = b) : A.bnot (A.beq a b) = false := by rw [A.ok_bnot, beqT h]; rfl
theorem nbT {A : Ar} {a b : Bool} (h : a ≠ b) : A.bnot (A.beq a b) = true := by rw [A.ok_bnot, A.ok_beq]; simpa using h
theorem seqT {A : Ar} {a b : ByteArray} (h : a = b) : A.seq a b = true := by
  subst h
  rw [A.ok_seq]
  simp [strEq]
theorem ltT {A : Ar} {a b : Int} (h : a < b) : A.lt a b = true := by rw [A.ok_lt]; simpa using h
theorem ltF {A : Ar} {a b : Int} (h : b ≤ a) : A.lt a b = false := by rw [A.ok_lt]; simpa using h
theorem leT {A : Ar} {a b : Int} (h : a ≤ b) : A.le a b = true := by rw [A.ok_le]; simpa using h
theorem leF {A : Ar} {a b : Int} (h : b < a) : A.le a b = false := by rw [A.ok_le]; simpa using h
theorem lenne_t {A : Ar} {a b : List AV} (h : A.bnot (A.eq (A.len a) (A.len b)) = true) : a.length ≠ b.length := by
  rw [A.ok_bnot, A.ok_eq, A.ok_len, A.ok_len] at h
  simp at h
  omega
theorem lenne_f {A : Ar} {a b : List AV} (h : A.bnot (A.eq (A.len a) (A.len b)) = false) : a.length = b.length := by
  rw [A.ok_bnot, A.ok_eq, A.ok_len, A.ok_len] at h
  simp at h
  omega
theorem sne_t {A : Ar} {a b : ByteArray} (h : A.bnot (A.seq a b) = true) : strEq a b = false := by
  rw [A.ok_bnot, A.ok_seq] at h
  simpa using h
theorem sne_f {A : Ar} {a b : ByteArray} (h : A.bnot (A.seq a b) = false) : strEq a b = true := by
  rw [A.ok_bnot, A.ok_seq] at h
  simpa using h
theorem pur_cons {a : AV} {l : List AV} (h : a.pur = true) (k : purL l = true) : purL (a :: l) = true := by simp only [purL, h, k]; rfl
theorem pur_sl {w : Nat} {l : List AV} (h : purL l = true) : (AV.sl w l).pur = true := by simpa [AV.pur] using h
theorem pur_slt {w : Nat} {l : List AV} (h : purL l = true) : (AV.slt w l).pur = true := by simpa [AV.pur] using h
theorem pur_agg {l : List AV} (h : purL l = true) : (AV.agg l).pur = true := by simpa [AV.pur] using h
theorem pur_tup {l : List AV} (h : purL l = true) : (AV.tup l).pur = true := by simpa [AV.pur] using h
/-- A call with one end. -/
def TC1 (P : Program) (f : FuncId) (args : List AV) (L : Store) (v : AV) (L' : Store) : Prop := TC P f args L fun x M => x = .ret v ∧ M = L'
theorem TC1.call {P : Program} {f : FuncId} {args args' : List AV} {L Ls Ls' : Store} {v : AV} {R : AEnd → Store → Prop} (π : List Nat) (h : TC1 P f args Ls v Ls')
    (he : chk (okπ 0 L.length π) (eobjs false false π L π Ls (ems false false π L args args' (chk (Nat.ble π.length Ls'.length) (ern (newsE L π Ls'.length) v fun v' => ernS (newsE L π Ls'.length) Ls' fun M => R (.ret v') (mergeP L π M)))))) : TC P f args' L R := by
  refine TCS.call (σ := Unit) (S := ⟨fun _ => True, fun _ => v, fun _ => Ls'⟩) π ⟨h.h.mono fun x M hx => ⟨(), trivial, hx.1, hx.2⟩⟩ ?_
  refine chk_iff.2 ⟨(chk_iff.1 he).1, ?_⟩
  refine eobjs_mono (fun h => ?_) _ _ (chk_iff.1 he).2
  refine ems_mono (fun h => ?_) _ _ h
  rintro s _ v L' rfl rfl
  exact h
/-- The one end of a call. -/
structure R1 (K : Nat) (v : AV) (L : Store) (v0 : AV) (L0 : Store) : Prop where
  h : VSV K v0 L0 v L
theorem R1.of {K : Nat} {v v0 : AV} {L L0 : Store} (h : eVS false K (autoπ K ⟨1, [(0, v0)]⟩ L0 [(0, v)] L) ⟨1, [(0, v0)]⟩ L0 [(0, v)] L True) : R1 K v L v0 L0 := ⟨(eVS_ok h).1⟩
def ebody1 (T : TyOps) (rs : List ResultVar) (K : Nat) (v : AV) (M : Store) : AEx → AFr → Store → Prop
  | .normal, fr, L => eres T fr L rs fun vs => R1 K v M (aone vs) L
  | .ret, fr, L => eres T fr L rs fun vs => R1 K v M (aone vs) L
  | _, _, _ => False
theorem TC1.of (A : Ar) {P : Program} {f : FuncId} {fn : Func} {c : Code} {args : List AV} {L : Store} (v : AV) (M : Store) (T : TyOps) (hT : T = tyOf P) (hf : P.funcs[f]? = some fn) (hb : fn.body = some c) (n : Nat) (hnt : fn.ntmps = n) (hn : args.length ≤ n)
    (h : ewp A T P none L.length c (ebody1 T fn.results.toList L.length v M) (frame0 n args) L) : TC1 P f args L v M := by
  subst hT hnt
  refine ⟨TCall.of_tw hf hb hn ((Tw.of_ewp _ _ _ _ h).mono fun e fr L' hq => ?_)⟩
  have key : ∀ vs, R1 L.length v M (aone vs) L' → ∃ v' L'', VSV L.length (aone vs) L' v' L'' ∧ AEnd.ret v' = .ret v ∧ L'' = M := fun vs ⟨h⟩ => ⟨_, _, h, rfl, rfl⟩
  cases e <;> first | exact hq.elim | exact eres_ok (eres_mono key hq)
/-- A loop whose states are told by the objects that there are at its begin. -/
theorem TW.loopL {σ : Type} (A : Ar) {T : TyOps} {P : Program} {r : Option Nat} {K : Nat} {c : Code} {Q : AEx → AFr → Store → Prop} {fr : AFr} {L : Store} (hT : T = tyOf P) (S : Store → LI σ) (n : Nat) (hn : fr.n = n) (s0 : σ) (hi : (S L).inv s0)
    (hv : eVS false K (autoπ K fr L ((S L).fr s0) ((S L).st s0)) fr L ((S L).fr s0) ((S L).st s0) True)
    (round : ∀ s, (S L).inv s → ∀ (I : LI σ) (l1 : List (Nat × AV)) (L1 : Store), I = S L → l1 = (S L).fr s → L1 = (S L).st s → ewp A T P r K c (thenQ (LM I K n s) Q) ⟨n, l1⟩ L1) : TW P r K (.loop c) Q fr L :=
  TW.loopM A hT (S L) n hn s0 hi hv fun s hs l1 L1 e1 e2 => round s hs _ l1 L1 rfl e1 e2
end Go.Proofs.Ytaieiigfheabfaa.Tw

/-! What a row's argument reads as: an abstract value, all of whose parts are in range. -/
namespace Go.Proofs.Ytaieiigfheabfaa.Tw
open Go.RowKit Go.ChangeShapes Go.WideShapes
set_option linter.unusedVariables false
/-- The blocks that there are at the begin. -/
def Ini (w : World) : Nat → Prop := fun b => b < w.heap.size
/-- Cells that are an abstract value's. -/
def CR (w : World) (cs : List Value) (a : AV) : Prop := RepL w (Ini w) [] cs a.cells
/-- Whatever reads as data of type t is one of these values. -/
def Opens {α : Type} (P : Program) (t : TypeId) (v : α → AV) (wf : α → Prop) (n : Nat) : Prop :=
  ∀ (H : Type) (enc : TypeId × Value → H) (w : World) (base : Nat) (spare : Nat → Bool) (held : Bool) (fuel : Nat) (cs : List Value) (x : DataW H × List MemPlace), fuel ≤ n → DataW.trod enc P w base spare held fuel t cs = some x → ∃ a, CR w cs (v a) ∧ wf a
theorem opens_le {α : Type} {P : Program} {t : TypeId} {v : α → AV} {wf : α → Prop} {n m : Nat} (h : Opens P t v wf n) (hm : m ≤ n) : Opens P t v wf m :=
  fun H enc w base spare held fuel cs x hf hx => h H enc w base spare held fuel cs x (Nat.le_trans hf hm) hx
theorem cr_one {w : World} {u : Value} {a : AV} (ha : a.cells = [a]) (h : Rep w (Ini w) [] u a) : CR w [u] a := by
  unfold CR
  rw [ha]
  refine ⟨rfl, fun j x c hx hc => ?_⟩
  cases j with
  | zero => simp at hx hc; subst hx hc; exact h
  | succ j => simp at hx
theorem opens_int {P : Program} {t : TypeId} {k : IntKind} (ht : P.underlying t = some (.int k)) (n : Nat) : Opens P t (fun x => .int k x) (fun x => (Lit.int k x).wf = true) n := by
  intro H enc w base spare held fuel cs x hf hx
  obtain ⟨m, rfl, _, hw⟩ := DataW.trod_int ht hx
  exact ⟨m, cr_one rfl (.int _ _), hw⟩
theorem opens_bool {P : Program} {t : TypeId} (ht : P.underlying t = some .bool) (n : Nat) : Opens P t (fun b => .bool b) (fun _ => True) n := by
  intro H enc w base spare held fuel cs x hf hx
  obtain ⟨m, rfl, _⟩ := DataW.trod_bool ht hx
  exact ⟨m, cr_one rfl (.bool _), trivial⟩
theorem opens_string {P : Program} {t : TypeId} (ht : P.underlying t = some .string) (n : Nat) : Opens P t (fun s => .str s) (fun s => s.size ≤ maxLen) n := by
  intro H enc w base spare held fuel cs x hf hx
  obtain ⟨m, rfl, _, hw⟩ := DataW.trod_string ht hx
  exact ⟨m, cr_one rfl (.str _), hw⟩
/-- A list out of what each place has. -/
theorem list_of {α : Type} (R : Nat → α → Prop) : ∀ n, (∀ i, i < n → ∃ a, R i a) → ∃ l : List α, l.length = n ∧ ∀ i a, l[i]? = some a → R i a
  | 0, _ => ⟨[], rfl, fun i a h => by simp at h⟩
  | n + 1, h => by
    obtain ⟨l, hl, hr⟩ := list_of R n (fun i hi => h i (by omega))
    obtain ⟨a, ha⟩ := h n (by omega)
    refine ⟨l ++ [a], by simp [hl], fun i b hb => ?_⟩
    by_cases hi : i < n
    · rw [List.getElem?_append_left (by omega)] at hb
      exact hr i b hb
    · have hi2 : i < n + 1 := by
        have := (List.getElem?_eq_some_iff.1 hb).1
        simp [hl] at this
        omega
      have : i = n := by omega
      subst this
      rw [← hl] at hb
      simp at hb
      exact hb ▸ ha
theorem cells_of {w : World} {base : Nat} {a : Addr} {n : Nat} {cs : List Value} (h : w.cells? base a n = some cs) : cs.length = n ∧ ∀ i u, cs[i]? = some u → w.cell? (a.add i) = some u := by
  obtain ⟨_, h1, h2⟩ := World.cells?_some h
  refine ⟨h1, fun i u hu => ?_⟩
  rw [h2 i (by have := (List.getElem?_eq_some_iff.1 hu).1; omega)]
  exact hu
theorem cell_plain {w : World} {a : Addr} {n : Nat} {u : Value} (h : w.cell? (a.add n) = some u) : w.cell? ⟨a.block, a.off + n, none⟩ = some u ∧ a.block < w.heap.size ∧ (n = 0 → a.spot = none) := by
  have hb : a.block < w.heap.size := by
    unfold World.cell? at h
    rw [add_block] at h
    split at h
    · rename_i hx; exact (Array.getElem?_eq_some_iff.1 hx).1
    · cases h
  by_cases hn : n = 0
  · subst hn
    have hs : a.spot = none := by
      have : a.add 0 = a := by unfold Addr.add; simp
      rw [this] at h
      unfold World.cell? at h
      split at h
      · split at h
        · cases h
        · rename_i hs; simpa using hs
      · cases h
    rw [add_none hs] at h
    exact ⟨h, hb, fun _ => hs⟩
  · have : a.add n = ⟨a.block, a.off + n, none⟩ := by unfold Addr.add; rw [if_neg hn]
    rw [this] at h
    exact ⟨h, hb, fun e => absurd e hn⟩
theorem add_add' (a : Addr) (n m : Nat) : (a.add n).add m = a.add (n + m) := by
  unfold Addr.add
  by_cases hn : n = 0 <;> by_cases hm : m = 0 <;> simp [hn, hm] <;> omega
theorem opens_slice {α : Type} {P : Program} {t e : TypeId} {v : α → AV} {wf : α → Prop} (ht : P.underlying t = some (.slice e)) {c : Nat} (hc : P.cellsOf e = c) (hpos : 0 < c) {n : Nat} (h : Opens P e v wf n) : Opens P t (fun l : List α => .sl c (l.map v)) (fun l : List α => l.length ≤ maxLen ∧ ∀ x ∈ l, wf x) (n + 1) := by
  intro H enc w base spare held fuel cs x hf hx
  rcases DataW.trod_slice ht hx with ⟨rfl, _⟩ | ⟨a, len, cap, elems, rest, m, rfl, rfl, _, hb, hl, hm, hlen, hel, _, _⟩
  · exact ⟨[], cr_one rfl (Sub.nils c _ _ _ _ .nils), by simp [maxLen], by simp⟩
  · have each : ∀ i, i < len → ∃ b, (∃ cs' : List Value, cs'.length = c ∧ CR w cs' (v b) ∧ ∀ j u, cs'[j]? = some u → w.cell? (a.add (i * c + j)) = some u) ∧ wf b := by
      intro i hi
      have h1 := hel i hi
      obtain ⟨y, hy⟩ : ∃ y, elems[i]? = some y := ⟨elems[i], List.getElem?_eq_getElem (by omega)⟩
      rw [hy, Option.bind_eq_some_iff] at h1
      obtain ⟨c', hc1, hc2⟩ := h1
      obtain ⟨b, hk, hw⟩ := h H enc w base spare held m c' y (by omega) hc2
      obtain ⟨hcl, hcc⟩ := cells_of hc1
      refine ⟨b, ⟨c', by rw [hcl, hc], hk, fun j u hu => ?_⟩, hw⟩
      have h2 := hcc j u hu
      rw [add_add', hc] at h2
      exact h2
    obtain ⟨l, hll, hlr⟩ := list_of _ len each
    have key : ∀ i b, l[i]? = some b → (v b).cells.length = c ∧ ∀ j cc, (v b).cells[j]? = some cc → ∃ u, w.cell? (a.add (i * c + j)) = some u ∧ Rep w (Ini w) [] u cc := by
      intro i b hb
      obtain ⟨⟨cs', q1, q2, q3⟩, _⟩ := hlr i b hb
      refine ⟨q2.1.symm.trans q1, fun j cc hcc => ?_⟩
      have hj := (List.getElem?_eq_some_iff.1 hcc).1
      obtain ⟨u, hu⟩ : ∃ u, cs'[j]? = some u := ⟨_, List.getElem?_eq_getElem (by rw [q2.1]; exact hj)⟩
      exact ⟨u, q3 j u hu, q2.2 j u cc hu hcc⟩
    have hA : l.map v = [] ∨ (some a = some a ∧ a.spot = none ∧ Ini w a.block) := by
      cases hl0 : l with
      | nil => exact .inl rfl
      | cons b bs =>
        obtain ⟨k1, k2⟩ := key 0 b (by rw [hl0]; rfl)
        obtain ⟨u, hu, _⟩ := k2 0 _ (List.getElem?_eq_getElem (by omega))
        obtain ⟨_, r2, r3⟩ := cell_plain hu
        exact .inr ⟨rfl, r3 (by omega), r2⟩
    refine ⟨l, cr_one rfl (.sl (some a) a len cap c (l.map v) (fun i j => (w.cell? ⟨a.block, a.off + (i * c + j), none⟩).getD undef) (by simp [hll]) (by omega) hA (fun e' he => ?_) (fun i j hi hj => ?_) (fun i e' j cc he hcc => ?_)), by rw [hll]; omega, fun b hb => ?_⟩
    · obtain ⟨b, hb, rfl⟩ := List.mem_map.1 he
      obtain ⟨i, hi⟩ := List.getElem?_of_mem hb
      exact (key i b hi).1
    · obtain ⟨b, hb⟩ : ∃ b, l[i]? = some b := ⟨_, List.getElem?_eq_getElem (by simpa using hi)⟩
      obtain ⟨k1, k2⟩ := key i b hb
      obtain ⟨u, hu, _⟩ := k2 j _ (List.getElem?_eq_getElem (by omega))
      rw [(cell_plain hu).1]
      rfl
    · rw [List.getElem?_map, Option.map_eq_some_iff] at he
      obtain ⟨b, hb, rfl⟩ := he
      obtain ⟨u, hu, hr⟩ := (key i b hb).2 j cc hcc
      rw [(cell_plain hu).1]
      exact hr
    · obtain ⟨i, hi⟩ := List.getElem?_of_mem hb
      exact (hlr i b hi).2
/-- The fields from a place on, of a struct whose cells are given from an offset on. -/
def OpensAt {α : Type} (P : Program) (fs : List Field) (off sz : Nat) (v : α → List AV) (wf : α → Prop) (n : Nat) : Prop :=
  ∀ (H : Type) (enc : TypeId × Value → H) (w : World) (base : Nat) (spare : Nat → Bool) (held : Bool) (fuel : Nat) (cs : List Value), fuel ≤ n → cs.length = sz →
    (∀ f ∈ fs, ∃ x, DataW.trod enc P w base spare held fuel f.type ((cs.drop (f.offset - off)).take (P.cellsOf f.type)) = some x) → ∃ a, RepL w (Ini w) [] cs (v a) ∧ wf a
theorem opens_last {α : Type} {P : Program} {f : Field} {off sz : Nat} {v : α → AV} {wf : α → Prop} {n : Nat} (ho : f.offset = off) (hc : P.cellsOf f.type = sz) (h : Opens P f.type v wf n) : OpensAt P [f] off sz (fun a => (v a).cells) wf n := by
  intro H enc w base spare held fuel cs hf hl hx
  obtain ⟨x, hx⟩ := hx f (by simp)
  rw [ho, Nat.sub_self, List.drop_zero, List.take_of_length_le (by omega)] at hx
  exact h H enc w base spare held fuel cs x hf hx
theorem repL_app {w : World} {I : Nat → Prop} {ρ : List Nat} {us vs : List Value} {as bs : List AV} (h : RepL w I ρ us as) (k : RepL w I ρ vs bs) : RepL w I ρ (us ++ vs) (as ++ bs) := by
  refine ⟨by simp [h.1, k.1], fun j u c hu hc => ?_⟩
  by_cases hj : j < us.length
  · rw [List.getElem?_append_left hj] at hu
    rw [List.getElem?_append_left (by rw [← h.1]; exact hj)] at hc
    exact h.2 j u c hu hc
  · rw [List.getElem?_append_right (by omega)] at hu
    rw [List.getElem?_append_right (by rw [← h.1]; omega), ← h.1] at hc
    exact k.2 _ u c hu hc
theorem opens_cons {α β : Type} {P : Program} {f : Field} {fs : List Field} {off c sz : Nat} {v : α → AV} {vs : β → List AV} {wa : α → Prop} {wb : β → Prop} {n : Nat} (ho : f.offset = off) (hc : P.cellsOf f.type = c) (hle : ∀ g ∈ fs, off + c ≤ g.offset) (ha : Opens P f.type v wa n) (hb : OpensAt P fs (off + c) sz vs wb n) : OpensAt P (f :: fs) off (c + sz) (fun x : α × β => (v x.1).cells ++ vs x.2) (fun x => wa x.1 ∧ wb x.2) n := by
  intro H enc w base spare held fuel cs hf hl hx
  obtain ⟨x, hx0⟩ := hx f (by simp)
  rw [ho, Nat.sub_self, List.drop_zero, hc] at hx0
  obtain ⟨p, hp, wp⟩ := ha H enc w base spare held fuel _ x hf hx0
  obtain ⟨q, hq, wq⟩ := hb H enc w base spare held fuel (cs.drop c) hf (by rw [List.length_drop]; omega) (fun g hg => by
    obtain ⟨y, hy⟩ := hx g (by simp [hg])
    refine ⟨y, ?_⟩
    rw [List.drop_drop, show c + (g.offset - (off + c)) = g.offset - off by have := hle g hg; omega]
    exact hy)
  refine ⟨(p, q), ?_, wp, wq⟩
  have := repL_app hp hq
  rwa [List.take_append_drop] at this
theorem opens_struct {α : Type} {P : Program} {t : TypeId} {fs : Array Field} {sz : Nat} {v : α → List AV} {wf : α → Prop} {n : Nat} (ht : P.underlying t = some (.struct fs)) (hc : P.cellsOf t = sz) (h : OpensAt P fs.toList 0 sz v wf n) : Opens P t (fun a => .agg (v a)) wf (n + 1) := by
  intro H enc w base spare held fuel cs x hf hx
  obtain ⟨xs, m, rfl, _, hl, hn, hfs⟩ := DataW.trod_struct ht hx
  refine h H enc w base spare held m cs (by omega) (by rw [hl, hc]) (fun f hf => ?_)
  obtain ⟨i, hi⟩ := List.getElem?_of_mem hf
  have h1 := hfs i f (by simpa using hi)
  have hlt : i < xs.length := by
    have := (List.getElem?_eq_some_iff.1 hi).1
    simp at this
    omega
  rw [List.getElem?_eq_getElem hlt] at h1
  exact ⟨_, h1⟩
theorem opens_map {α β : Type} {P : Program} {t : TypeId} {v : α → AV} {wf : α → Prop} {n : Nat} (u : β → AV) (wg : β → Prop) (g : α → β) (hg : ∀ a, u (g a) = v a) (hw : ∀ a, wf a → wg (g a)) (h : Opens P t v wf n) : Opens P t u wg n := by
  intro H enc w base spare held fuel cs x hf hx
  obtain ⟨a, ha, hwa⟩ := h H enc w base spare held fuel cs x hf hx
  exact ⟨g a, by rw [hg]; exact ha, hw a hwa⟩
/-- An argument, read. -/
theorem opens_arg {α : Type} {P : Program} {t : TypeId} {v : α → AV} {wf : α → Prop} (h : ∀ n, Opens P t v wf n) {H : Type} {enc : TypeId × Value → H} {w : World} {base : Nat} {spare : Nat → Bool} {held : Bool} {u : Value} {d : DataW H} {p : List MemPlace} (hx : DataW.Trod enc P w base spare held t u d p) :
    ∃ a, CR w u.cells.toList (v a) ∧ wf a := by
  obtain ⟨fuel, hf⟩ := hx
  exact h fuel H enc w base spare held fuel _ _ (Nat.le_refl _) hf
theorem cr_rep {w : World} {u : Value} {a : AV} (h : CR w u.cells.toList a) (hu : (∃ cs, u = .agg cs) ↔ ∃ cs, a = .agg cs) : Rep w (Ini w) [] u a := by
  unfold CR at h
  cases a with
  | agg cs =>
    obtain ⟨vs, rfl⟩ := hu.2 ⟨cs, rfl⟩
    have : vs = vs.toList.toArray := by simp
    rw [this]
    exact .agg _ _ h.1 h.2
  | _ =>
    have : u.cells = #[u] := by
      cases u <;> first | rfl | (obtain ⟨cs, hcs⟩ := hu.1 ⟨_, rfl⟩; cases hcs)
    rw [this] at h
    exact h.2 0 u _ rfl rfl
end Go.Proofs.Ytaieiigfheabfaa.Tw
