import Derived.Test.YtpjibokaeefhiaaTwO
/-! A call that knows a part of the objects alone. -/
namespace Go.Proofs.Ytpjibokaeefhiaa.Tw
open Go.RowKit
set_option linter.unusedVariables false
set_option linter.unusedSimpArgs false
mutual
/-- Places of a callee's, as the caller's. -/
def AV.ren (π : List Nat) : AV → AV
  | .ref p w i f => .ref (π.getD p 0) w i f
  | .row p w off n => .row (π.getD p 0) w off n
  | .map p => .map (π.getD p 0)
  | .yield p => .yield (π.getD p 0)
  | .imm cs => .imm (renL π cs)
  | .sl w es => .sl w (renL π es)
  | .slt w es => .slt w (renL π es)
  | .agg cs => .agg (renL π cs)
  | .tup cs => .tup (renL π cs)
  | .func fn a b => .func fn (renL π a) (renL π b)
  | .ifc t v => .ifc t (v.ren π)
  | .any => .any
  | .int k n => .int k n
  | .bool b => .bool b
  | .str s => .str s
  | .nil => .nil
  | .nils => .nils
  | .nilf => .nilf
  | .raw v => .raw v
def renL (π : List Nat) : List AV → List AV
  | [] => []
  | a :: as => a.ren π :: renL π as
end
theorem renL_map (π : List Nat) : ∀ l : List AV, renL π l = l.map (·.ren π)
  | [] => rfl
  | a :: l => by rw [renL, renL_map π l]; rfl
mutual
theorem AV.ren_pur (π : List Nat) : ∀ a : AV, a.pur = true → a.ren π = a
  | .ref .., h => by simp [AV.pur] at h
  | .row .., h => by simp [AV.pur] at h
  | .map _, h => by simp [AV.pur] at h
  | .yield _, h => by simp [AV.pur] at h
  | .imm cs, h => by simp only [AV.pur] at h; simp only [AV.ren, renL_pur π cs h]
  | .sl _ cs, h => by simp only [AV.pur] at h; simp only [AV.ren, renL_pur π cs h]
  | .slt _ cs, h => by simp only [AV.pur] at h; simp only [AV.ren, renL_pur π cs h]
  | .agg cs, h => by simp only [AV.pur] at h; simp only [AV.ren, renL_pur π cs h]
  | .tup cs, h => by simp only [AV.pur] at h; simp only [AV.ren, renL_pur π cs h]
  | .func _ a b, h => by
    simp only [AV.pur, Bool.and_eq_true] at h
    simp only [AV.ren, renL_pur π a h.1, renL_pur π b h.2]
  | .ifc _ v, h => by simp only [AV.pur] at h; simp only [AV.ren, AV.ren_pur π v h]
  | .any, _ => rfl
  | .int _ _, _ => rfl
  | .bool _, _ => rfl
  | .str _, _ => rfl
  | .nil, _ => rfl
  | .nils, _ => rfl
  | .nilf, _ => rfl
  | .raw _, _ => rfl
theorem renL_pur (π : List Nat) : ∀ l : List AV, purL l = true → renL π l = l
  | [], _ => rfl
  | a :: l, h => by
    simp only [purL, Bool.and_eq_true] at h
    rw [renL, AV.ren_pur π a h.1, renL_pur π l h.2]
end
theorem ren_cells (π : List Nat) (e : AV) : (e.ren π).cells = e.cells.map (·.ren π) := by
  cases e <;> simp [AV.ren, AV.cells, renL_map]
/-- What lies where, of a part of the objects. -/
def SubRho (π : List Nat) (ρs ρ : List Nat) : Prop := ∀ (i b : Nat), ρs[i]? = some b → ∃ p, π[i]? = some p ∧ ρ[p]? = some b
theorem Rep.ren {w : World} {I : Nat → Prop} {ρs ρ : List Nat} {π : List Nat} (hs : SubRho π ρs ρ) {v : Value} {a : AV} (h : Rep w I ρs v a) : Rep w I ρ v (a.ren π) := by
  induction h with
  | any v => exact .any v
  | int k n => exact .int k n
  | bool b => exact .bool b
  | str s => exact .str s
  | nil => exact .nil
  | ref p wd i f b h =>
    obtain ⟨q, h1, h2⟩ := hs p b h
    simp only [AV.ren, List.getD_eq_getElem?_getD, h1, Option.getD_some]
    exact .ref q wd i f b h2
  | imm a cs vs hsp hI hc hr ih =>
    simp only [AV.ren, renL_map]
    refine .imm a _ vs hsp hI (fun j hj => hc j (by simpa using hj)) (fun j c hj => ?_)
    rw [List.getElem?_map] at hj
    cases hx : cs[j]? with
    | none => rw [hx] at hj; cases hj
    | some x => rw [hx] at hj; cases hj; exact ih j x hx
  | nils => exact .nils
  | sl a A n c wd els vs hn hcap ha hw hc hr ih =>
    simp only [AV.ren, renL_map]
    refine .sl a A n c wd _ vs (by simpa using hn) hcap (ha.imp (fun h => by rw [h]; rfl) id) (fun e he => ?_) (fun i j hi hj => hc i j (by simpa using hi) hj) (fun i e j c he hc' => ?_)
    · obtain ⟨x, hx, rfl⟩ := List.mem_map.1 he
      rw [ren_cells, List.length_map]; exact hw x hx
    · rw [List.getElem?_map] at he
      cases hx : els[i]? with
      | none => rw [hx] at he; cases he
      | some x =>
        rw [hx] at he; cases he
        rw [ren_cells, List.getElem?_map] at hc'
        cases hy : x.cells[j]? with
        | none => rw [hy] at hc'; cases hc'
        | some y => rw [hy] at hc'; cases hc'; exact ih i x j y hx hy
  | slt a A n wd els vs hn ha hw hc hr ih =>
    simp only [AV.ren, renL_map]
    refine .slt a A n wd _ vs (by simpa using hn) (ha.imp (fun h => by rw [h]; rfl) id) (fun e he => ?_) (fun i j hi hj => hc i j (by simpa using hi) hj) (fun i e j c he hc' => ?_)
    · obtain ⟨x, hx, rfl⟩ := List.mem_map.1 he
      rw [ren_cells, List.length_map]; exact hw x hx
    · rw [List.getElem?_map] at he
      cases hx : els[i]? with
      | none => rw [hx] at he; cases he
      | some x =>
        rw [hx] at he; cases he
        rw [ren_cells, List.getElem?_map] at hc'
        cases hy : x.cells[j]? with
        | none => rw [hy] at hc'; cases hc'
        | some y => rw [hy] at hc'; cases hc'; exact ih i x j y hx hy
  | row p wd off n b c C t h hn hb hC =>
    obtain ⟨q, h1, h2⟩ := hs p b h
    simp only [AV.ren, List.getD_eq_getElem?_getD, h1, Option.getD_some]
    exact .row q wd off n b c C t h2 hn hb hC
  | agg vs cs hl hr ih =>
    simp only [AV.ren, renL_map]
    refine .agg vs _ (by simpa using hl) (fun j v c hv hc => ?_)
    rw [List.getElem?_map] at hc
    cases hx : cs[j]? with
    | none => rw [hx] at hc; cases hc
    | some x => rw [hx] at hc; cases hc; exact ih j v x hv hx
  | tup vs cs hl hr ih =>
    simp only [AV.ren, renL_map]
    refine .tup vs _ (by simpa using hl) (fun j v c hv hc => ?_)
    rw [List.getElem?_map] at hc
    cases hx : cs[j]? with
    | none => rw [hx] at hc; cases hc
    | some x => rw [hx] at hc; cases hc; exact ih j v x hv hx
  | func fn fs gs fst cap hl hl' hr hr' ih ih' =>
    simp only [AV.ren, renL_map]
    refine .func fn fs gs _ _ (by simpa using hl) (by simpa using hl') (fun j v c hv hc => ?_) (fun j v c hv hc => ?_)
    · rw [List.getElem?_map] at hc
      cases hx : fst[j]? with
      | none => rw [hx] at hc; cases hc
      | some x => rw [hx] at hc; cases hc; exact ih j v x hv hx
    · rw [List.getElem?_map] at hc
      cases hx : cap[j]? with
      | none => rw [hx] at hc; cases hc
      | some x => rw [hx] at hc; cases hc; exact ih' j v x hv hx
  | nilf => exact .nilf
  | map p b h =>
    obtain ⟨q, h1, h2⟩ := hs p b h
    simp only [AV.ren, List.getD_eq_getElem?_getD, h1, Option.getD_some]
    exact .map q b h2
  | yield p b h =>
    obtain ⟨q, h1, h2⟩ := hs p b h
    simp only [AV.ren, List.getD_eq_getElem?_getD, h1, Option.getD_some]
    exact .yield q b h2
  | ifc t v a h ih => exact .ifc t v _ ih
  | raw v => exact .raw v
/-- What the callee knows of a value of the caller's. -/
inductive Rn (π : List Nat) : AV → AV → Prop
  | pure {a : AV} (h : a.pur = true) : Rn π a a
  | any (a : AV) : Rn π .any a
  | ref {p q : Nat} (w i f : Nat) (h : π[p]? = some q) : Rn π (.ref p w i f) (.ref q w i f)
  | row {p q : Nat} (w off n : Nat) (h : π[p]? = some q) : Rn π (.row p w off n) (.row q w off n)
  | map {p q : Nat} (h : π[p]? = some q) : Rn π (.map p) (.map q)
  | agg (cs ds : List AV) (hl : cs.length = ds.length) (h : ∀ (j : Nat) (c d : AV), cs[j]? = some c → ds[j]? = some d → Rn π c d) : Rn π (.agg cs) (.agg ds)
  | func (fn : Fn) (cs ds as bs : List AV) (hl : cs.length = ds.length) (h : ∀ (j : Nat) (c d : AV), cs[j]? = some c → ds[j]? = some d → Rn π c d) (hl' : as.length = bs.length) (h' : ∀ (j : Nat) (c d : AV), as[j]? = some c → bs[j]? = some d → Rn π c d) : Rn π (.func fn cs as) (.func fn ds bs)
theorem Rn.rep {w : World} {I : Nat → Prop} {ρ : List Nat} {π : List Nat} {ρs : List Nat} (hs : ∀ (i p : Nat), π[i]? = some p → ∃ b, ρs[i]? = some b ∧ ρ[p]? = some b) {a c : AV} (h : Rn π a c) : ∀ {v : Value}, Rep w I ρ v c → Rep w I ρs v a := by
  induction h with
  | pure h => exact fun hv => hv.pure _ h
  | any a => exact fun _ => .any _
  | ref wd i f h =>
    intro v hv
    obtain ⟨b, h1, h2⟩ := hs _ _ h
    cases hv with
    | ref _ _ _ _ b' hb => rw [h2] at hb; cases hb; exact .ref _ _ _ _ _ h1
  | row wd off n h =>
    intro v hv
    obtain ⟨b, h1, h2⟩ := hs _ _ h
    cases hv with
    | row _ _ _ _ b' c C t hb hn hB hC => rw [h2] at hb; cases hb; exact .row _ _ _ _ _ c C t h1 hn hB hC
  | map h =>
    intro v hv
    obtain ⟨b, h1, h2⟩ := hs _ _ h
    cases hv with
    | map _ b' hb => rw [h2] at hb; cases hb; exact .map _ _ h1
  | agg cs ds hl h ih =>
    intro v hv
    cases hv with
    | agg vs _ hl' hr =>
      refine .agg vs cs (hl'.trans hl.symm) fun j u d hu hd => ?_
      have hlt := (List.getElem?_eq_some_iff.1 hd).1
      have hc : ds[j]? = some (ds[j]'(by omega)) := List.getElem?_eq_getElem (by omega)
      exact ih j d _ hd hc (hr j u _ hu hc)
  | func fn cs ds as bs hl h hl' h' ih ih' =>
    intro v hv
    cases hv with
    | func _ fs gs _ _ q1 q2 q3 q4 =>
      refine .func fn fs gs cs as (q1.trans hl.symm) (q2.trans hl'.symm) (fun j u d hu hd => ?_) (fun j u d hu hd => ?_)
      · have hlt := (List.getElem?_eq_some_iff.1 hd).1
        have hc : ds[j]? = some (ds[j]'(by omega)) := List.getElem?_eq_getElem (by omega)
        exact ih j d _ hd hc (q3 j u _ hu hc)
      · have hlt := (List.getElem?_eq_some_iff.1 hd).1
        have hc : bs[j]? = some (bs[j]'(by omega)) := List.getElem?_eq_getElem (by omega)
        exact ih' j d _ hd hc (q4 j u _ hu hc)
/-- .. of an object. -/
inductive RnO (π : List Nat) : AO → AO → Prop
  | arr (w : Nat) (es fs : List AV) (hl : es.length = fs.length) (h : ∀ (i : Nat) (e f : AV), es[i]? = some e → fs[i]? = some f → e.cells.length = f.cells.length ∧ ∀ (j : Nat) (c d : AV), e.cells[j]? = some c → f.cells[j]? = some d → Rn π c d) : RnO π (.arr w es) (.arr w fs)
  | box (w : Nat) (e f : AV) (hl : e.cells.length = f.cells.length) (h : ∀ (j : Nat) (c d : AV), e.cells[j]? = some c → f.cells[j]? = some d → Rn π c d) : RnO π (.box w e) (.box w f)
theorem RnO.rep {w : World} {I : Nat → Prop} {ρ : List Nat} {π : List Nat} {ρs : List Nat} (hs : ∀ (i p : Nat), π[i]? = some p → ∃ b, ρs[i]? = some b ∧ ρ[p]? = some b) {a c : AO} (h : RnO π a c) {b : Nat} (ho : ObjRel w I ρ b c) : ObjRel w I ρs b a := by
  cases h with
  | arr wd es fs hl h =>
    obtain ⟨C, t, h1, h2, h3⟩ := ho
    refine ⟨C, t, h1, by rw [hl]; exact h2, fun i e he => ?_⟩
    have hlt := (List.getElem?_eq_some_iff.1 he).1
    have hf : fs[i]? = some (fs[i]'(by omega)) := List.getElem?_eq_getElem (by omega)
    obtain ⟨q1, q2⟩ := h i e _ he hf
    obtain ⟨r1, r2⟩ := h3 i _ hf
    refine ⟨q1.trans r1, fun j c hc => ?_⟩
    have hjl := (List.getElem?_eq_some_iff.1 hc).1
    have hd : (fs[i]'(by omega)).cells[j]? = some ((fs[i]'(by omega)).cells[j]'(by omega)) := List.getElem?_eq_getElem (by omega)
    obtain ⟨v, hv, hr⟩ := r2 j _ hd
    exact ⟨v, hv, (q2 j c _ hc hd).rep hs hr⟩
  | box wd e f hl h =>
    obtain ⟨C, t, h1, h2, h3⟩ := ho
    refine ⟨C, t, h1, h2, fun i e' he => ?_⟩
    have hlt := (List.getElem?_eq_some_iff.1 he).1
    simp at hlt
    subst hlt
    simp at he
    subst he
    obtain ⟨r1, r2⟩ := h3 0 f rfl
    refine ⟨hl.trans r1, fun j c hc => ?_⟩
    have hjl := (List.getElem?_eq_some_iff.1 hc).1
    have hd : f.cells[j]? = some (f.cells[j]'(by omega)) := List.getElem?_eq_getElem (by omega)
    obtain ⟨v, hv, hr⟩ := r2 j _ hd
    exact ⟨v, hv, (h j c _ hc hd).rep hs hr⟩
def AO.ren (π : List Nat) : AO → AO
  | .arr w es => .arr w (renL π es)
  | .box w e => .box w (e.ren π)
  | .mp es => .mp (es.map fun x => (x.1.ren π, x.2.ren π))
  | .loop st pend n l ps as bd => .loop st pend n (l.map fun x => (x.1, x.2.ren π)) ps as bd
theorem agetL_ren (π : List Nat) : ∀ (l : List (Nat × AV)) (t : Nat), agetL (l.map fun x => (x.1, x.2.ren π)) t = (agetL l t).ren π
  | [], t => rfl
  | (d, v) :: l, t => by
    simp only [List.map_cons, agetL]
    split
    · rfl
    · exact agetL_ren π l t
theorem ObjRel.ren {w : World} {I : Nat → Prop} {ρs ρ : List Nat} {π : List Nat} (hs : SubRho π ρs ρ) {b : Nat} {o : AO} (h : ObjRel w I ρs b o) : ObjRel w I ρ b (o.ren π) := by
  have cellwise : ∀ (C : Array Value) (wd i : Nat) (e : AV), (e.cells.length = wd ∧ ∀ (j : Nat) (c : AV), e.cells[j]? = some c → ∃ v : Value, C[i * wd + j]? = some v ∧ Rep w I ρs v c) → ((e.ren π).cells.length = wd ∧ ∀ (j : Nat) (c : AV), (e.ren π).cells[j]? = some c → ∃ v : Value, C[i * wd + j]? = some v ∧ Rep w I ρ v c) := by
    intro C wd i e ⟨h1, h2⟩
    rw [ren_cells]
    refine ⟨by simpa using h1, fun j c hc => ?_⟩
    rw [List.getElem?_map] at hc
    cases hx : e.cells[j]? with
    | none => rw [hx] at hc; cases hc
    | some x =>
      rw [hx] at hc; cases hc
      obtain ⟨v, hv, hr⟩ := h2 j x hx
      exact ⟨v, hv, hr.ren hs⟩
  cases o with
  | arr wd els =>
    obtain ⟨C, t, h1, h2, h3⟩ := h
    refine ⟨C, t, h1, by rw [renL_map]; simpa using h2, fun i e he => ?_⟩
    rw [renL_map, List.getElem?_map] at he
    cases hx : els[i]? with
    | none => rw [hx] at he; cases he
    | some x => rw [hx] at he; cases he; exact cellwise C wd i x (h3 i x hx)
  | box wd e =>
    obtain ⟨C, t, h1, h2, h3⟩ := h
    refine ⟨C, t, h1, h2, fun i e' he => ?_⟩
    have hlt := (List.getElem?_eq_some_iff.1 he).1
    simp at hlt
    subst hlt
    simp at he
    subst he
    exact cellwise C wd 0 e (h3 0 e rfl)
  | mp es =>
    obtain ⟨E, k, h1, h2, h3⟩ := h
    refine ⟨E, k, h1, by simpa using h2, fun i x e hx he => ?_⟩
    rw [List.getElem?_map] at hx
    cases hy : es[i]? with
    | none => rw [hy] at hx; cases hx
    | some y =>
      rw [hy] at hx; cases hx
      exact ⟨(h3 i y e hy he).1.ren hs, (h3 i y e hy he).2.ren hs⟩
  | loop st pend n l ps as bd =>
    obtain ⟨fn, tmps, D, h1, h2, h3⟩ := h
    exact ⟨fn, tmps, D, h1, h2, fun t => by rw [agetL_ren]; exact (h3 t).ren hs⟩
def AEnd.ren (π : List Nat) : AEnd → AEnd
  | .ret v => .ret (v.ren π)
  | .pan v => .pan (v.ren π)
/-- The callee's objects, put back among the caller's. -/
def mergeL (L : Store) (π : List Nat) (π' : List Nat) (L' : Store) : Store :=
  ((List.range L.length).map fun q => match π.idxOf? q with
    | some i => ((L'[i]?).join).map (·.ren π')
    | none => (L[q]?).join) ++ (L'.drop π.length).map (·.map (·.ren π'))
def news (L : Store) (π : List Nat) (L' : Store) : List Nat := π ++ (List.range (L'.length - π.length)).map (L.length + ·)
theorem TCall.frame {P : Program} {f : FuncId} {args args' : List AV} {L Ls : Store} {R R' : AEnd → Store → Prop} (π : List Nat) (h : TCall P f args Ls R) (hd : π.Nodup) (hlen : π.length = Ls.length)
    (hobj : ∀ (i p : Nat), π[i]? = some p → p < L.length ∧ ∀ o, Ls[i]? = some (some o) → ∃ o', L[p]? = some (some o') ∧ RnO π o o')
    (hal : args.length = args'.length) (hargs : ∀ (j : Nat) (a a' : AV), args[j]? = some a → args'[j]? = some a' → Rn π a a')
    (hR : ∀ x L', π.length ≤ L'.length → R x L' → R' (x.ren (news L π L')) (mergeL L π (news L π L') L')) : TCall P f args' L R' := by
  intro w I ρ vs h1 h2
  let ρs : List Nat := π.map fun p => ρ.getD p 0
  have hs : ∀ (i p : Nat), π[i]? = some p → ∃ b, ρs[i]? = some b ∧ ρ[p]? = some b := by
    intro i p hp
    have hlt := (hobj i p hp).1
    rw [← h1.len] at hlt
    refine ⟨ρ[p], ?_, List.getElem?_eq_getElem hlt⟩
    simp [ρs, List.getElem?_map, hp, hlt]
  have hρs : ∀ (i b : Nat), ρs[i]? = some b → ∃ p, π[i]? = some p ∧ ρ[p]? = some b := by
    intro i b hb
    have hi := (List.getElem?_eq_some_iff.1 hb).1
    simp [ρs] at hi
    obtain ⟨p, hp⟩ : ∃ p, π[i]? = some p := ⟨π[i], List.getElem?_eq_getElem hi⟩
    obtain ⟨b', q1, q2⟩ := hs i p hp
    rw [q1] at hb
    cases hb
    exact ⟨p, hp, q2⟩
  have hrel : Rel w I ρs Ls := by
    refine ⟨by simp [ρs, hlen], fun i o b hi hb => ?_, fun i j o o' b hi hj hbi hbj => ?_, h1.imm⟩
    · obtain ⟨p, hp, hpb⟩ := hρs i b hb
      obtain ⟨o', ho', hrn⟩ := (hobj i p hp).2 o hi
      obtain ⟨a1, a2, a3⟩ := h1.own p o' b ho' hpb
      exact ⟨a1, a2, hrn.rep hs a3⟩
    · obtain ⟨p, hp, hpb⟩ := hρs i b hbi
      obtain ⟨q, hq, hqb⟩ := hρs j b hbj
      obtain ⟨o1, ho1, _⟩ := (hobj i p hp).2 o hi
      obtain ⟨o2, ho2, _⟩ := (hobj j q hq).2 o' hj
      have : p = q := h1.inj p q o1 o2 b ho1 ho2 hpb hqb
      subst this
      have hi' := (List.getElem?_eq_some_iff.1 hp).1
      have hj' := (List.getElem?_eq_some_iff.1 hq).1
      exact (List.getElem?_inj hi' hd).1 (hp.trans hq.symm)
  have hargs' : RepL w I ρs vs args := ⟨h2.1.trans hal.symm, fun j v a hv ha => by
    have hlt := (List.getElem?_eq_some_iff.1 ha).1
    have ha' : args'[j]? = some (args'[j]'(by omega)) := List.getElem?_eq_getElem (by omega)
    exact (hargs j a _ ha ha').rep hs (h2.2 j v _ hv ha')⟩
  have hown : ∀ b, Owned ρs Ls b → Owned ρ L b := fun b ⟨i, o, hi, hb⟩ => by
    obtain ⟨p, hp, hpb⟩ := hρs i b hb
    obtain ⟨o', ho', _⟩ := (hobj i p hp).2 o hi
    exact ⟨p, o', ho', hpb⟩
  refine (h w I ρs vs hrel hargs').mono ?_
  rintro e w' ⟨x, L', I', ρ', hx, hq, r1, hρ', ev⟩
  have hge : π.length ≤ L'.length := by
    rw [← r1.len]
    rcases Nat.lt_or_ge ρ'.length π.length with hlt | hge
    · exfalso
      have hlt2 : ρ'.length < ρs.length := by simpa [ρs] using hlt
      have := hρ' ρ'.length _ (List.getElem?_eq_getElem hlt2)
      have := (List.getElem?_eq_some_iff.1 this).1
      omega
    · exact hge
  let ρ2 : List Nat := ρ ++ ρ'.drop π.length
  let π' := news L π L'
  have hsub : SubRho π' ρ' ρ2 := by
    intro i b hb
    have hi := (List.getElem?_eq_some_iff.1 hb).1
    by_cases hlt : i < π.length
    · obtain ⟨p, hp⟩ : ∃ p, π[i]? = some p := ⟨π[i], List.getElem?_eq_getElem hlt⟩
      obtain ⟨b', q1, q2⟩ := hs i p hp
      have := hρ' i b' q1
      rw [hb] at this
      cases this
      refine ⟨p, by simp only [π', news]; rw [List.getElem?_append_left hlt]; exact hp, ?_⟩
      simp only [ρ2]
      rw [List.getElem?_append_left (List.getElem?_eq_some_iff.1 q2).1]
      exact q2
    · refine ⟨L.length + (i - π.length), ?_, ?_⟩
      · simp only [π', news]
        rw [List.getElem?_append_right (by omega), List.getElem?_map, List.getElem?_range (by rw [← r1.len]; omega)]
        rfl
      · simp only [ρ2]
        rw [List.getElem?_append_right (by rw [h1.len]; omega), List.getElem?_drop, ← hb]
        congr 1
        rw [h1.len]
        omega
  have hle : Le w I ρ w' I' ρ2 := ⟨fun b hb => ev.keep b (h1.imm b hb) (fun ho => h1.free hb (hown b ho)), ev.imm, fun p b hp => by
      simp only [ρ2]
      rw [List.getElem?_append_left (List.getElem?_eq_some_iff.1 hp).1]; exact hp, ev.cells⟩
  -- what stands at a place
  have cs : ∀ (q : Nat) (o : AO) (b : Nat), (mergeL L π π' L')[q]? = some (some o) → ρ2[q]? = some b →
      (∃ i o', L'[i]? = some (some o') ∧ ρ'[i]? = some b ∧ o = o'.ren π' ∧ ((i < π.length ∧ π[i]? = some q) ∨ (π.length ≤ i ∧ q = L.length + (i - π.length)))) ∨
      (L[q]? = some (some o) ∧ ρ[q]? = some b ∧ q ∉ π ∧ q < L.length) := by
    intro q o b hq hb
    simp only [mergeL] at hq
    by_cases hlt : q < L.length
    · rw [List.getElem?_append_left (by simpa using hlt), List.getElem?_map, List.getElem?_range hlt] at hq
      simp only [Option.map_some, Option.some.injEq] at hq
      have hb1 : ρ[q]? = some b := by
        simp only [ρ2] at hb
        rwa [List.getElem?_append_left (by rw [h1.len]; exact hlt)] at hb
      cases hix : π.idxOf? q with
      | some i =>
        rw [hix] at hq
        have hmem := List.idxOf?_eq_some_iff.1 hix
        obtain ⟨hil, hiq, _⟩ := hmem
        have hiq' : π[i]? = some q := by rw [List.getElem?_eq_getElem hil]; simpa using hiq
        obtain ⟨b', q1, q2⟩ := hs i q hiq'
        rw [hb1] at q2
        cases q2
        cases hL' : L'[i]? with
        | none => simp [hL'] at hq
        | some y => cases y with
          | none => simp [hL'] at hq
          | some o' =>
            simp [hL'] at hq
            exact .inl ⟨i, o', hL', hρ' i b q1, hq.symm, .inl ⟨hil, hiq'⟩⟩
      | none =>
        rw [hix] at hq
        have hno : q ∉ π := by simpa [List.idxOf?_eq_none_iff] using hix
        cases hL : L[q]? with
        | none => simp [hL] at hq
        | some y => cases y with
          | none => simp [hL] at hq
          | some o' =>
            simp [hL] at hq
            subst hq
            exact .inr ⟨rfl, hb1, hno, hlt⟩
    · rw [List.getElem?_append_right (by simpa using hlt), List.length_map, List.length_range, List.getElem?_map, List.getElem?_drop] at hq
      cases hL' : L'[π.length + (q - L.length)]? with
      | none => simp [hL'] at hq
      | some y => cases y with
        | none => simp [hL'] at hq
        | some o' =>
          simp [hL'] at hq
          simp only [ρ2] at hb
          rw [List.getElem?_append_right (by rw [h1.len]; omega), List.getElem?_drop, h1.len] at hb
          exact .inl ⟨_, o', hL', hb, hq.symm, .inr ⟨by omega, by omega⟩⟩
  have hrel2 : Rel w' I' ρ2 (mergeL L π π' L') := by
    refine ⟨?_, fun q o b hq hb => ?_, fun q q' o o' b hq hq' hb hb' => ?_, r1.imm⟩
    · simp only [ρ2, mergeL]
      rw [List.length_append, List.length_append, List.length_map, List.length_range, List.length_map, List.length_drop, List.length_drop, h1.len, r1.len]
    · rcases cs q o b hq hb with ⟨i, o', k1, k2, rfl, _⟩ | ⟨k1, k2, k3, k4⟩
      · obtain ⟨a1, a2, a3⟩ := r1.own i o' b k1 k2
        exact ⟨a1, a2, a3.ren hsub⟩
      · obtain ⟨a1, a2, a3⟩ := h1.own q o b k1 k2
        have hno : ¬ Owned ρs Ls b := fun ⟨i, os, hi, hbi⟩ => by
          obtain ⟨p, hp, hpb⟩ := hρs i b hbi
          obtain ⟨o1, ho1, _⟩ := (hobj i p hp).2 os hi
          have : p = q := h1.inj p q o1 o b ho1 k1 hpb k2
          subst this
          exact k3 (List.mem_of_getElem? hp)
        refine ⟨Nat.lt_of_lt_of_le a1 ev.size, fun hI => ?_, a3.mono hle (ev.keep b a1 hno)⟩
        rcases ev.imm' b hI with y | y | y
        · exact a2 y
        · omega
        · exact hno y
    · rcases cs q o b hq hb with ⟨i, o1, k1, k2, _, k5⟩ | ⟨k1, k2, k3, k4⟩ <;> rcases cs q' o' b hq' hb' with ⟨i', o1', k1', k2', _, k5'⟩ | ⟨k1', k2', k3', k4'⟩
      · have hii : i = i' := r1.inj i i' o1 o1' b k1 k1' k2 k2'
        subst hii
        rcases k5 with ⟨_, k5⟩ | ⟨k5a, k5⟩ <;> rcases k5' with ⟨_, k5'⟩ | ⟨k5a', k5'⟩
        · rw [k5] at k5'; cases k5'; rfl
        · omega
        · omega
        · omega
      · exfalso
        rcases ev.own b ⟨i, o1, k1, k2⟩ with ⟨j, os, hj, hbj⟩ | hsz
        · obtain ⟨p, hp, hpb⟩ := hρs j b hbj
          obtain ⟨o2, ho2, _⟩ := (hobj j p hp).2 os hj
          have : p = q' := h1.inj p q' o2 o' b ho2 k1' hpb k2'
          subst this
          exact k3' (List.mem_of_getElem? hp)
        · have := (h1.own q' o' b k1' k2').1
          omega
      · exfalso
        rcases ev.own b ⟨i', o1', k1', k2'⟩ with ⟨j, os, hj, hbj⟩ | hsz
        · obtain ⟨p, hp, hpb⟩ := hρs j b hbj
          obtain ⟨o2, ho2, _⟩ := (hobj j p hp).2 os hj
          have : p = q := h1.inj p q o2 o b ho2 k1 hpb k2
          subst this
          exact k3 (List.mem_of_getElem? hp)
        · have := (h1.own q o b k1 k2).1
          omega
      · exact h1.inj q q' o o' b k1 k1' k2 k2'
  refine ⟨x.ren π', mergeL L π π' L', I', ρ2, ?_, hR x L' hge hq, hrel2, hle.rho, ⟨ev.os, ev.tape, ev.output, ev.size, fun b hb hn => ev.keep b hb (fun ho => hn (hown b ho)), ev.imm, fun b hb => ?_, fun b ⟨q, o, hq', hb⟩ => ?_, ev.cells, fun p hp => ?_⟩⟩
  · cases e with
    | returned v => cases x with
      | ret a => exact Rep.ren hsub hx
      | pan a => exact hx.elim
    | panicked ch => cases x with
      | ret a => exact hx.elim
      | pan a =>
        obtain ⟨v, rfl, hv⟩ := hx
        exact ⟨v, rfl, Rep.ren hsub hv⟩
    | outgrown => cases x <;> exact hx.elim
  · rcases ev.imm' b hb with y | y | y
    · exact .inl y
    · exact .inr (.inl y)
    · exact .inr (.inr (hown b y))
  · rcases cs q o b hq' hb with ⟨i, o1, k1, k2, _, _⟩ | ⟨k1, k2, _, _⟩
    · rcases ev.own b ⟨i, o1, k1, k2⟩ with y | y
      · exact .inl (hown b y)
      · exact .inr y
    · exact .inl ⟨q, o, k1, k2⟩
  · simp only [ρ2]
    exact List.getElem?_append_left (by rw [h1.len]; exact hp)
end Go.Proofs.Ytpjibokaeefhiaa.Tw
