import Derived.Test.YtpjibokaeefhiaaLp
import Derived.Test.YtpjibokaeefhiaaTw12
/-! A tree of ours of which the rows on a path are rows of ours: chains of rows. -/
namespace Go.Proofs.Ytpjibokaeefhiaa
open Go.Proofs.Ytpjibokaeefhiaa.Tw
theorem Em.setT (E : Em) (xs : List Tree) (i : Nat) (x : Tree) : (E.tree.l xs).set i (E.tree.v x) = E.tree.l (xs.set i x) := by rw [E.tree.ok, E.tree.ok, List.map_set]
/-- The rows ps hold the kids ks and, on the path, their kids; the last one holds whole trees. -/
def Sp (E : Em) (L : Store) : List Nat → List Tree → List Nat → Prop
  | [p], ks, [i] => L[p]? = some (some (.arr 4 (E.tree.l ks))) ∧ i < ks.length
  | p :: q :: ps, ks, i :: j :: path => ∃ ki kk s kks, ks[i]? = some (.node ki kk s kks) ∧ L[p]? = some (some (.arr 4 ((E.tree.l ks).set i (.agg [.int .i64 ki, .int .i64 kk, .str s, .row q 4 0 kks.length])))) ∧ Sp E L (q :: ps) kks (j :: path)
  | _, _, _ => False
theorem Sp.same {E : Em} {L L' : Store} : ∀ {ps : List Nat} {ks : List Tree} {path : List Nat}, (∀ p ∈ ps, L'[p]? = L[p]?) → Sp E L ps ks path → Sp E L' ps ks path
  | [p], ks, [i], h, hs => ⟨(h p (List.mem_cons_self ..)).trans hs.1, hs.2⟩
  | p :: q :: ps, ks, i :: j :: path, h, ⟨ki, kk, s, kks, h1, h2, h3⟩ => ⟨ki, kk, s, kks, h1, (h p (List.mem_cons_self ..)).trans h2, Sp.same (fun x hx => h x (List.mem_cons_of_mem _ hx)) h3⟩
  | [], _, _, _, hs => hs.elim
  | [_], _, [], _, hs => hs.elim
  | [_], _, _ :: _ :: _, _, hs => hs.elim
  | _ :: _ :: _, _, [], _, hs => hs.elim
  | _ :: _ :: _, _, [_], _, hs => hs.elim
/-- All rows behind the first are shut. -/
theorem Sp.shut {E : Em} : ∀ {ps : List Nat} {p : Nat} {ks : List Tree} {path : List Nat} {L : Store}, Sp E L (p :: ps) ks path → (p :: ps).Nodup → ∃ L' : Store, (∀ K fr, VS K fr L fr L') ∧ L'.length = L.length ∧ L'[p]? = some (some (.arr 4 (E.tree.l ks))) ∧ ∀ x, x ∉ p :: ps → L'[x]? = L[x]?
  | [], p, ks, [i], L, hs, hn => ⟨L, fun K fr => VS.refl K fr L, rfl, hs.1, fun _ _ => rfl⟩
  | q :: ps, p, ks, i :: j :: path, L, ⟨ki, kk, s, kks, h1, h2, h3⟩, hn => by
    have hp : p ∉ q :: ps := (List.nodup_cons.1 hn).1
    obtain ⟨L1, hv, hl, hq, hx⟩ := Sp.shut h3 (List.nodup_cons.1 hn).2
    have hpq : p ≠ q := fun e => hp (e ▸ List.mem_cons_self ..)
    have h2' := (hx p hp).trans h2
    have hlp := (List.getElem?_eq_some_iff.1 h2').1
    refine ⟨(L1.set p (some (.arr 4 (E.tree.l ks)))).set q none, fun K fr => VS.trans (hv K fr) (VS.freezeIn hpq hq h2' (by simp) fun x e e' he he' => ?_), by simp [hl], ?_, fun x hx' => ?_⟩
    · by_cases hxi : i = x
      · subst hxi
        have hlt : i < (E.tree.l ks).length := by rw [E.tree.len]; exact (List.getElem?_eq_some_iff.1 h1).1
        rw [List.getElem?_set_self hlt] at he
        cases he
        rw [E.tree.get h1, E.node] at he'
        cases he'
        refine ⟨rfl, fun j c c' hc hc' => ?_⟩
        match j, hc, hc' with
        | 0, hc, hc' => cases hc; cases hc'; exact .sub (Sub.refl _)
        | 1, hc, hc' => cases hc; cases hc'; exact .sub (Sub.refl _)
        | 2, hc, hc' => cases hc; cases hc'; exact .sub (Sub.refl _)
        | 3, hc, hc' => cases hc; cases hc'; exact FSub.whole (by rw [E.tree.len])
        | j + 4, hc, hc' => simp [AV.cells] at hc
      · rw [List.getElem?_set_ne hxi] at he
        rw [he] at he'
        cases he'
        exact FSubE.refl ..
    · rw [List.getElem?_set_ne (Ne.symm hpq), List.getElem?_set_self hlp]
    · have hxp : x ≠ p := fun e => hx' (e ▸ List.mem_cons_self ..)
      have hxq : x ∉ q :: ps := fun h => hx' (List.mem_cons_of_mem _ h)
      rw [List.getElem?_set_ne (fun e : q = x => hxq (by rw [← e]; exact List.mem_cons_self ..)), List.getElem?_set_ne (Ne.symm hxp)]
      exact hx x hxq
  | [], _, _, [], _, hs, _ => hs.elim
  | [], _, _, _ :: _ :: _, _, hs, _ => hs.elim
  | _ :: _, _, _, [], _, hs, _ => hs.elim
  | _ :: _, _, _, [_], _, hs, _ => hs.elim
/-- Kids with another tree at a path. -/
def putAt (x : Tree) : List Tree → List Nat → List Tree
  | ks, [] => ks
  | ks, [i] => ks.set i x
  | ks, i :: j :: path => match ks[i]? with
    | some (.node a b c kks) => ks.set i (.node a b c (putAt x kks (j :: path)))
    | none => ks
theorem putAt_len (x : Tree) : ∀ (path : List Nat) (ks : List Tree), (putAt x ks path).length = ks.length
  | [], ks => rfl
  | [i], ks => by simp [putAt]
  | i :: j :: path, ks => by
    rw [putAt]
    split <;> simp
/-- The kids that stand in the last row. -/
def endK : List Tree → List Nat → List Tree
  | ks, [] => ks
  | ks, [_] => ks
  | ks, i :: j :: path => match ks[i]? with
    | some (.node _ _ _ kks) => endK kks (j :: path)
    | none => []
def endI : List Nat → Nat
  | [] => 0
  | [i] => i
  | _ :: j :: path => endI (j :: path)
def endP : List Nat → Nat
  | [] => 0
  | [p] => p
  | _ :: q :: ps => endP (q :: ps)
theorem endP_mem : ∀ (ps : List Nat) (p : Nat), endP (p :: ps) ∈ p :: ps
  | [], p => List.mem_cons_self ..
  | q :: ps, p => List.mem_cons_of_mem _ (endP_mem ps q)
/-- What stands in the last row. -/
theorem Sp.last {E : Em} {L : Store} : ∀ {ps : List Nat} {ks : List Tree} {path : List Nat}, Sp E L ps ks path → L[endP ps]? = some (some (.arr 4 (E.tree.l (endK ks path)))) ∧ endI path < (endK ks path).length
  | [p], ks, [i], hs => hs
  | p :: q :: ps, ks, i :: j :: path, ⟨ki, kk, s, kks, h1, h2, h3⟩ => by
    rw [endP, endI, endK, h1]
    exact Sp.last h3
  | [], _, _, hs => hs.elim
  | [_], _, [], hs => hs.elim
  | [_], _, _ :: _ :: _, hs => hs.elim
  | _ :: _ :: _, _, [], hs => hs.elim
  | _ :: _ :: _, _, [_], hs => hs.elim
/-- Another tree at the path's end. -/
theorem Sp.put {E : Em} (x : Tree) {L : Store} : ∀ {ps : List Nat} {ks : List Tree} {path : List Nat}, Sp E L ps ks path → ps.Nodup → Sp E (L.set (endP ps) (some (.arr 4 (E.tree.l ((endK ks path).set (endI path) x))))) ps (putAt x ks path) path
  | [p], ks, [i], hs, hn => ⟨by rw [endP, List.getElem?_set_self (List.getElem?_eq_some_iff.1 hs.1).1]; rfl, by simp [putAt]; exact hs.2⟩
  | p :: q :: ps, ks, i :: j :: path, ⟨ki, kk, s, kks, h1, h2, h3⟩, hn => by
    have hp : p ∉ q :: ps := (List.nodup_cons.1 hn).1
    have ih := Sp.put x h3 (List.nodup_cons.1 hn).2
    have hi := (List.getElem?_eq_some_iff.1 h1).1
    have e1 : putAt x ks (i :: j :: path) = ks.set i (.node ki kk s (putAt x kks (j :: path))) := by rw [putAt, h1]
    have e2 : endK ks (i :: j :: path) = endK kks (j :: path) := by rw [endK, h1]
    refine ⟨ki, kk, s, putAt x kks (j :: path), by rw [e1, List.getElem?_set_self hi], ?_, ?_⟩
    · rw [endP, List.getElem?_set_ne (fun e : endP (q :: ps) = p => hp (by rw [← e]; exact endP_mem ps q)), h2, e1, ← E.setT, List.set_set, putAt_len]
    · rw [endP, endI, e2]
      exact ih
  | [], _, _, hs, _ => hs.elim
  | [_], _, [], hs, _ => hs.elim
  | [_], _, _ :: _ :: _, hs, _ => hs.elim
  | _ :: _ :: _, _, [], hs, _ => hs.elim
  | _ :: _ :: _, _, [_], hs, _ => hs.elim
end Go.Proofs.Ytpjibokaeefhiaa
