/- (*badge.Desk).badges: what it answers, for heaps; no condition. -/
import Derived.Test.YtaahkamnpobofaaSorted26
import Derived.Test.YtaahkamnpobofaaPBadgeB
import Derived.Test.YtaahkamnpobofaaBridge
import Derived.Test.YtaahkamnpobofaaDraws
namespace Go.Proofs.Ytaahkamnpobofaa
open Go Go.Ab Go.RowKit
theorem insert_perm {H : Type} (x : Lit × DataW H) (l : List (Lit × DataW H)) : (DataW.insert x l).Perm (x :: l) := by
  induction l with
  | nil => exact List.Perm.refl _
  | cons y l ih =>
    simp only [DataW.insert]
    split
    · exact List.Perm.refl _
    · exact (List.Perm.cons y ih).trans (List.Perm.swap x y l)
theorem foldr_perm {H : Type} (l : List (Lit × DataW H)) : (l.foldr DataW.insert []).Perm l := by
  induction l with
  | nil => exact List.Perm.refl _
  | cons x l ih => exact (insert_perm x _).trans (List.Perm.cons x ih)
def anyR : Value → Option (DataW Unit × List MemPlace) := fun _ => some (.nil, [])
theorem rg_int {e : MapEntry} {n : Int} (he : e.key = .int .i64 n) (hw : (Lit.int .i64 n).wf = true) : WideElems.rd Try.prog 3 anyR e = some (.int .i64 n, .nil) := by
  have hk : keyOf Try.prog 3 (.int .i64 n) = some (.int .i64 n) := by
    simp [keyOf, mapKey, hw]
  simp only [WideElems.rd, he, hk, anyR]
  rfl
theorem badges_ev {h : Hp} {k d b : Nat} {last : Int} {L : List Bd} (r : DeskR h k d b last L) :
    EvA Try.prog 50 [.pointer (some ⟨d, 0, none⟩)] (fun v h' => Acc h.length h' 1 v L.length (L.map fun x => .int .i64 x.no) ∧ Same h h') h := by
  refine ⟨by kernel_rfl, fun μ w vs hr hv => ?_⟩
  obtain ⟨y, ys, e1, hy, hys⟩ := hv.cons_inv
  have e2 := hys.nil_inv
  have hvs : vs = #[y] := by apply Array.toList_inj.1; rw [e1, e2]
  subst hvs
  cases hy with
  | ptr o hd =>
    rename_i p
    obtain ⟨_, _, _, hcell, _⟩ := hr.obj d p _ hd r.at_
    obtain ⟨v', hc, hv'⟩ := hcell 1 (.map (some b)) rfl
    cases hv' with
    | map hb =>
      rename_i q
      obtain ⟨_, l, clock, hl, hE⟩ := hr.obj b q _ hb r.mp
      have few := r.ok.few
      have hlen : l.toList.length = L.length := by rw [← hE.len]; simp
      have hkey : ∀ i (hi : i < L.length) (e : MapEntry), l.toList[i]? = some e → e.key = .int .i64 L[i].no := by
        intro i hi e he
        have := (hE.each i (.int .i64 L[i].no, L[i].agg) e (by simp [cellM, cellB, intK, hi]) he).1
        obtain ⟨key, val, born⟩ := e
        simp only at this ⊢
        cases this; rfl
      have hwf : ∀ x ∈ L, (Lit.int .i64 x.no).wf = true := by
        intro x hx
        have h1 := r.ok.nos x hx
        have h2 := r.ok.l1
        simp only [Lit.wf, IntKind.min, IntKind.max]
        simp
        omega
      have hrd : ∀ i (hi : i < L.length) (e : MapEntry), l.toList[i]? = some e → WideElems.rd Try.prog 3 anyR e = some (.int .i64 L[i].no, .nil) := fun i hi e he => rg_int (hkey i hi e he) (hwf _ (List.getElem_mem _))
      have hrg : l.toList.map (WideElems.rg Try.prog 3 anyR) = L.map fun x => (Lit.int .i64 x.no, DataW.nil) := by
        apply List.ext_getElem?
        intro i
        rw [List.getElem?_map, List.getElem?_map]
        by_cases hi : i < L.length
        · have hi2 : i < l.toList.length := by omega
          rw [List.getElem?_eq_getElem hi, List.getElem?_eq_getElem hi2]
          simp only [Option.map_some]
          rw [WideElems.rg, hrd i hi _ (List.getElem?_eq_getElem hi2)]
          rfl
        · rw [List.getElem?_eq_none (by omega), List.getElem?_eq_none (by omega)]
          rfl
      have hFit : WideElems.Fit Try.prog 3 anyR l clock := by
        have hsz : l.size = L.length := by simpa using hlen
        refine ⟨by rw [hsz]; exact Nat.le_trans few (by decide), ⟨?_, ?_, ?_⟩, ?_⟩
        · intro x hx
          obtain ⟨i, hi, rfl⟩ := List.getElem_of_mem hx
          exact hE.born i _ (List.getElem?_eq_getElem hi)
        · refine List.pairwise_map.2 (List.pairwise_iff_getElem.2 fun i j hi hj hij => ?_)
          have := hE.once i j _ _ hij (List.getElem?_eq_getElem hi) (List.getElem?_eq_getElem hj)
          omega
        · refine List.pairwise_map.2 (List.pairwise_iff_getElem.2 fun i j hi hj hij => ?_)
          rw [hkey i (by omega) _ (List.getElem?_eq_getElem hi), hkey j (by omega) _ (List.getElem?_eq_getElem hj)]
          have := rising_lt r.ok hij (show j < L.length by omega)
          intro e
          simp only [Value.int.injEq, true_and] at e
          omega
        · intro x hx
          obtain ⟨i, hi, rfl⟩ := List.getElem_of_mem hx
          exact ⟨_, hrd i (by omega) _ (List.getElem?_eq_getElem hi)⟩
      have hown : w.ownsMap Try.prog 3 anyR q.block l.size (.map ((l.toList.map (WideElems.rg Try.prog 3 anyR)).foldr DataW.insert [])) := ⟨l, clock, hl, hFit, Nat.le_refl _, rfl⟩
      have hperm : (intKeys (.map ((l.toList.map (WideElems.rg Try.prog 3 anyR)).foldr DataW.insert []) : DataW Unit)).Perm (L.map (·.no)) := by
        simp only [intKeys]
        refine ((foldr_perm _).map _).trans ?_
        rw [hrg, List.map_map]
        exact List.Perm.refl _
      have hsize : Maps.size (.map ((l.toList.map (WideElems.rg Try.prog 3 anyR)).foldr DataW.insert []) : DataW Unit) = L.length := by
        simp only [Maps.size]
        rw [(foldr_perm _).length_eq, hrg, List.length_map]
      have hmax : L.length ≤ maxLen := Nat.le_trans few (by decide)
      have hcalls := badges_calls p.block p.off q.block l.size _ anyR w hc hown (by rw [hsize]; exact hmax) (by rw [hsize]; omega)
      refine hcalls.mono ?_
      rintro e w' ⟨v, ss, rfl, hp, ho, hnil, hbelow⟩
      have hsl : ss.length = L.length := by rw [hp.length_eq, hperm.length_eq, List.length_map]
      have hms : ss.mergeSort (fun x y => decide (x ≤ y)) = L.map (·.no) := mergeSort_eq (hp.trans hperm) (by
        refine List.pairwise_map.2 (r.ok.rising.imp fun h => ?_)
        omega)
      rw [hms, hsl] at ho
      obtain ⟨μ', h', rr, s, hvr, hacc, hsame⟩ := Step.ownsRow hr hbelow (by omega) ho (xs := L.map fun x => .int .i64 x.no) (fun μ' => by
        rw [List.map_map]
        refine ⟨rfl, fun i x y hx hy => ?_⟩
        rw [List.getElem?_map] at hx hy
        cases hi : L[i]? with
        | none => rw [hi] at hx; cases hx
        | some z => rw [hi] at hx hy; cases hx; cases hy; exact .int _ _)
      exact ⟨μ', h', rr, v, rfl, s, hvr, hacc, hsame⟩
end Go.Proofs.Ytaahkamnpobofaa
