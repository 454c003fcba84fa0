/- The document's desk: Give, Beat, Drop; no condition. -/
import Derived.Test.YtaahkamnpobofaaRDeskA
namespace Go.Proofs.Ytaahkamnpobofaa
open Go.Ab
theorem appF4 {k : Nat} {h : Hp} {v : Value} {n : Nat} {xs : List Value} (A : Acc k h 5 v n xs) (hk : k ≤ h.length) (hn : n ≤ 1000000000) (x : Bd) :
    ∃ v' h', appendA Try.prog 48 48 v (.slice (some ⟨h.length, 0, none⟩) 1 1) (h ++ [.cells [.int .i64 x.no, .int .i64 x.pipe, .int .i64 x.job, .int .i64 x.runner, .int .i64 x.heard] false none]) = some (v', h') ∧ Acc k h' 5 v' (n + 1) (xs ++ x.five) ∧ Upd (inRow v) (h ++ [.cells x.five false none]) h' ∧ ∀ j, inRow v' j → inRow v j ∨ h.length ≤ j := by
  obtain ⟨v', h', e1, e2, e3, e4⟩ := Acc.append (P := Try.prog) (t := 48) (tx := 48) (e := 53) (by_ := 40) (dx := .slice 53) (A.same (Same.new [.cells x.five false none])) (by simp; omega) (by simp) (by simp) (by simp) rfl
    (show srcA 5 (.slice (some ⟨h.length, 0, none⟩) 1 1) (h ++ [.cells x.five false none]) = some (1, x.five) by simp [srcA, Bd.five]) (by simp [Bd.five]) (by simp [oneA, Bd.five]) (by omega) (by omega)
  exact ⟨v', h', e1, e2, e3, fun j hj => (e4 j hj).imp id fun h1 => by simp at h1; omega⟩
section
variable {h g : Hp} {k d : Nat} {last : Int} {L : List Bd} {v : Value}
/-- the desk stands on, its list may have moved -/
def RStand (h : Hp) (k d : Nat) (v : Value) (last : Int) (L : List Bd) (h' : Hp) : Prop :=
  ∃ v', RefD h' k d v' last L ∧ Upd (fun j => j = d ∨ inRow v j) h h' ∧ ∀ j, inRow v' j → inRow v j ∨ h.length ≤ j
theorem RStand.same {g' : Hp} {last0 : Int} {L0 : List Bd} (_r : RefD h k d v last0 L0) (r : RefD h k d v last L) (s : Same h g') : RStand h k d v last L g' := ⟨v, r.same s, s.mono fun _ _ h => h.elim, fun _ hj => .inl hj⟩
set_option maxHeartbeats 4000000 in
theorem rgive_ev (r : RefD h k d v last L) (x : Bd) : EvA Try.prog 44 [.pointer (some ⟨d, 0, none⟩), .int .i64 x.pipe, .int .i64 x.job, .int .i64 x.runner, .int .i64 x.heard]
    (fun w h' => w = .tuple #[.int .i64 (giveN last L x), .int .i64 (giveE last L x)] ∧ RStand h k d v (giveT last L x) (giveL last L x) h') h := by
  refine EvA.body Try.func44 rfl (by kernel_rfl) (by simp) ?_
  apply Run.ok
  obtain ⟨y, hy⟩ : ∃ y, y = x.as 0 := ⟨_, rfl⟩
  have y0 : y.no = 0 := by rw [hy]; rfl
  have y1 : y.pipe = x.pipe := by rw [hy]; rfl
  have y2 : y.job = x.job := by rw [hy]; rfl
  have y3 : y.runner = x.runner := by rw [hy]; rfl
  have y4 : y.heard = x.heard := by rw [hy]; rfl
  have yg : y.good = x.good := by rw [hy]; rfl
  have yb : busyB L y = busyB L x := by rw [hy]; rfl
  have yl : y.as (last + 1) = x.as (last + 1) := by rw [hy]; rfl
  have sn : Same h (h ++ [Blk.cells y.five false none]) := Same.new _
  have hn : (h ++ [Blk.cells y.five false none])[h.length]? = some (.cells y.five false none) := by simp
  obtain ⟨g1, hg⟩ : ∃ g, g = h ++ [Blk.cells y.five false none] := ⟨_, rfl⟩
  rw [← hg] at sn hn
  have hg' : h ++ [Blk.cells [.int .i64 0, .int .i64 x.pipe, .int .i64 x.job, .int .i64 x.runner, .int .i64 x.heard] false none] = g1 := by rw [hg, ← y1, ← y2, ← y3, ← y4, ← y0]; rfl
  obtain ⟨c, hc⟩ : ∃ c, c = h.length := ⟨_, rfl⟩
  rw [← hc] at hn
  have l5 := ld5 hn
  have few := r.ok.few
  have hl0 := r.ok.l0
  have hl1 := r.ok.l1
  have rlt := r.lt
  simp [spl, hg', ← hc, l5, -load_ptr]
  refine after_call (rgood_ev y g1) ?_
  rintro w g2 ⟨s2, rfl⟩
  have hn2 := s2.at hn
  have l5 := ld5 hn2
  have r2 := r.same (sn.trans s2)
  rw [yg]
  cases hgd : x.good with
  | false =>
    have he : giveE last L x = 1 := by simp [giveE, hgd]
    obtain ⟨q1, q2, q3⟩ := ge2 _ _ _ he (by decide)
    rw [q1, q2, q3, he]
    simp
    exact RStand.same r r (sn.trans s2)
  | true =>
  simp [l5, -load_ptr]
  refine after_call (rbusy_ev r2 y) ?_
  rintro w g3 ⟨s3, rfl⟩
  have hn3 := s3.at hn2
  have l5 := ld5 hn3
  have r3 := r2.same s3
  have s13 := (sn.trans s2).trans s3
  rw [yb]
  cases hbz : busyB L x with
  | true =>
    have he : giveE last L x = 61 := by simp [giveE, hgd, hbz]
    obtain ⟨q1, q2, q3⟩ := ge2 _ _ _ he (by decide)
    rw [q1, q2, q3, he]
    simp
    exact RStand.same r r s13
  | false =>
  have k0 := r3.l0
  by_cases ce : 2147483647 ≤ last
  · have he : giveE last L x = 70 := by
      have : last = 2147483647 := by omega
      simp [giveE, hgd, hbz, this]
    obtain ⟨q1, q2, q3⟩ := ge2 _ _ _ he (by decide)
    rw [q1, q2, q3, he]
    simp [k0, ce, -load_ptr]
    exact RStand.same r r s13
  have he : giveE last L x = 0 := by
    have : ¬ last = 2147483647 := by omega
    simp [giveE, hgd, hbz, this]
  obtain ⟨q1, q2, q3⟩ := ge1 _ _ _ he
  rw [q1, q2, q3, he]
  have w1 : IntKind.i64.wrap (last + 1) = last + 1 := wrap_i64 (by omega) (by omega)
  have hB := r3.at_
  have hlt3 := r3.lt
  have hnlt := hp_lt hn3
  have hcd : c ≠ d := by omega
  have p1 : storeA Try.prog 3 (.pointer (some ⟨d, 0, none⟩)) (.int .i64 (last + 1)) g3 = some (g3.set d (.cells [.int .i64 (last + 1), v] false none)) := by simp [storeA, hB, cellsOf, spl]
  have u4 : Upd (fun j => j = d ∨ inRow v j) g3 (g3.set d (.cells [.int .i64 (last + 1), v] false none)) := Upd.set (.inl rfl) _
  have hB4 : (g3.set d (.cells [.int .i64 (last + 1), v] false none))[d]? = some (.cells [.int .i64 (last + 1), v] false none) := by simp [hlt3]
  have hn4 : (g3.set d (.cells [.int .i64 (last + 1), v] false none))[c]? = some (.cells y.five false none) := by rw [List.getElem?_set_ne (by omega)]; exact hn3
  have A4 := r3.row.upd (Upd.set (S := (· = d)) rfl (.cells [.int .i64 (last + 1), v] false none)) r3.ne
  generalize hg4 : g3.set d (.cells [.int .i64 (last + 1), v] false none) = g4 at p1 u4 hB4 hn4 A4
  have len4 : g4.length = g3.length := by rw [← hg4]; simp
  have k4 := load_at (P := Try.prog) (t := 3) (o := 0) hB4 (by simp)
  simp only [List.getElem?_cons_zero] at k4
  have p2 : storeA Try.prog 3 (.pointer (some ⟨c, 0, none⟩)) (.int .i64 (last + 1)) g4 = some (g4.set c (.cells (x.as (last + 1)).five false none)) := by
    rw [← yl]
    simp [storeA, hn4, cellsOf, spl, Bd.five, Bd.as]
  have u5 : Upd (fun j => j = c) g4 (g4.set c (.cells (x.as (last + 1)).five false none)) := Upd.set (S := (· = c)) rfl _
  have hB5 := u5.at hB4 (fun e => hcd e.symm)
  have hn5 : (g4.set c (.cells (x.as (last + 1)).five false none))[c]? = some (.cells (x.as (last + 1)).five false none) := by simp [len4, hnlt]
  have A5 := A4.upd u5 (fun j hj e => by have := (r.row.above j hj).2; omega)
  generalize hg5 : g4.set c (.cells (x.as (last + 1)).five false none) = g5 at p2 u5 hB5 hn5 A5
  have len5 : g5.length = g4.length := by rw [← hg5]; simp
  have k5 := load_at (P := Try.prog) (t := 48) (o := 1) hB5 (by simp)
  simp only [List.getElem?_cons_zero, List.getElem?_cons_succ] at k5
  have l5 := ld5 hn5
  have hlen := s13.len
  obtain ⟨v', g6, e6, A6, u6, n6⟩ := appF4 A5 (by have := r.kd; omega) (by omega) (x.as (last + 1))
  have sx : Same g5 (g5 ++ [.cells (x.as (last + 1)).five false none]) := Same.new _
  have hB6 := u6.at (sx.at hB5) (fun e => r.ne d e rfl)
  have hn6 := u6.at (sx.at hn5) (fun e => by have := (r.row.above c e).2; omega)
  have hcv := (Row.one A6.row).1
  have hov := (Row.one A6.row).2
  have p3 : storeA Try.prog 48 (.pointer (some ⟨d, 1, none⟩)) v' g6 = some (g6.set d (.cells [.int .i64 (last + 1), v'] false none)) := by simp [storeA, hB6, hcv, hov, spl]
  have u7 : Upd (fun j => j = d ∨ inRow v j) g6 (g6.set d (.cells [.int .i64 (last + 1), v'] false none)) := Upd.set (.inl rfl) _
  have hd6 := hp_lt hB6
  have hB7 : (g6.set d (.cells [.int .i64 (last + 1), v'] false none))[d]? = some (.cells [.int .i64 (last + 1), v'] false none) := by simp [hd6]
  have hn7 : (g6.set d (.cells [.int .i64 (last + 1), v'] false none))[c]? = some (.cells (x.as (last + 1)).five false none) := by rw [List.getElem?_set_ne (by omega)]; exact hn6
  have ne7 : ∀ j, inRow v' j → j ≠ d := fun j hj => by
    rcases n6 j hj with e | e
    · exact r.ne j e
    · omega
  have A7 := A6.upd (Upd.set (S := (· = d)) rfl (.cells [.int .i64 (last + 1), v'] false none)) ne7
  generalize hg7 : g6.set d (.cells [.int .i64 (last + 1), v'] false none) = g7 at p3 u7 hB7 hn7 A7
  have k7 := load_at (P := Try.prog) (t := 3) (o := 0) hn7 (by simp)
  simp only [Bd.five, Bd.as, List.getElem?_cons_zero] at k7
  obtain ⟨gX, hX⟩ : ∃ gX, gX = g5 ++ [.cells (x.as (last + 1)).five false none] := ⟨_, rfl⟩
  have hX' : g5 ++ [Blk.cells [.int .i64 (last + 1), .int .i64 x.pipe, .int .i64 x.job, .int .i64 x.runner, .int .i64 x.heard] false none] = gX := hX.symm
  have k5x := load_at (P := Try.prog) (t := 48) (o := 1) (sx.at hB5) (by simp)
  simp only [List.getElem?_cons_zero, List.getElem?_cons_succ] at k5x
  have l5x := ld5 (sx.at hn5)
  rw [← hX] at k5x l5x
  simp only [Bd.as] at l5 l5x e6
  rw [hX'] at e6
  simp [k0, ce, w1, p1, k4, p2, -load_ptr, -store_ptr]
  refine WpA.drawnA [0, 1, 2, 3, 4, 5, 6, 7, 8, 9, 10] [[], [], [], [], [], [], [], [1, 2, 3, 4, 5, 6], [], [], [0, 1, 2, 3, 4, 5, 6, 7, 8, 9]] (by kernel_rfl) (by decide +kernel) (by decide +kernel) ?_
  simp [k5, l5, zeros, spl, capO, hX', k5x, l5x, e6, p3, k7, -load_ptr, -store_ptr]
  have u16 : Upd (fun j => j = d ∨ inRow v j) h g5 := Upd.trans (Upd.trans (s13.mono fun _ _ h => h.elim) u4 fun _ _ e => e) u5 fun j hj e => by omega
  refine ⟨v', ⟨hB7, by simpa using A7, ne7, r.kd, r.ok.give hgd hbz (by omega) (by omega)⟩, Upd.trans (Upd.trans (Upd.trans u16 (sx.mono (S' := inRow v) fun _ _ h => h.elim) fun j hj e => .inr e) u6 fun j hj e => .inr e) u7 fun j hj e => e, fun j hj => ?_⟩
  rcases n6 j hj with e | e
  · exact .inl e
  · exact .inr (by omega)
end
end Go.Proofs.Ytaahkamnpobofaa
