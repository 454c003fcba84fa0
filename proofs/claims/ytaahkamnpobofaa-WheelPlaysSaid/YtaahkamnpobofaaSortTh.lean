/- slices.SortFunc at things that are due: the comparing closure, by the kit's own walk; no condition. -/
import Derived.Shelf.SlSortCmp.WholeK
import Derived.Test.YtaahkamnpobofaaLays23
import Derived.Test.YtaahkamnpobofaaWheelA
import Derived.Deep.RegionHeld3
namespace Go.Proofs.Ytaahkamnpobofaa
open Go Go.Proofs Go.Shelf Go.RowKit Go.Lib Go.Sort
theorem isNaN_raw (n : Int) (W : World) : Calls Try.prog 90 #[.int .i64 n] W fun e w' => e = .returned (.bool false) ∧ w' = W := by
  go_enter Try.func90, Try.ntmps90
  go_wp2
  go_ret
  simp
set_option maxRecDepth 4000 in
theorem cmp_raw (x y : Int) (W : World) : Calls Try.prog 59 #[.int .i64 x, .int .i64 y] W fun e w' => e = .returned (.int .i64 (cmpI x y)) ∧ w' = W := by
  obtain ⟨r, hr, r1, r2, r3⟩ : ∃ r, cmpI x y = r ∧ (x < y → r = -1) ∧ (¬ x < y → y < x → r = 1) ∧ (¬ x < y → ¬ y < x → r = 0) := ⟨_, rfl, fun h => by simp [cmpI, h], fun h g => by simp [cmpI, h, g], fun h g => by simp [cmpI, h, g]⟩
  rw [hr]
  clear hr
  go_enter Try.func59, Try.ntmps59
  go_wp2_with (go_at_call 90; refine (isNaN_raw _ _).mono ?_; rintro e w' ⟨rfl, rfl⟩)
  · have h1 : x < y := by assumption
    have := r1 h1
    subst this
    go_ret
    exact ⟨rfl, rfl⟩
  · have h1 : ¬ x < y := by omega
    have h2 : y < x := by assumption
    have := r2 (by omega) h2
    subst this
    go_ret
    exact ⟨rfl, rfl⟩
  · have h1 : ¬ x < y := by omega
    have h2 : ¬ y < x := by omega
    have := r3 (by omega) (by omega)
    subst this
    go_ret
    exact ⟨rfl, rfl⟩
set_option maxHeartbeats 1000000 in
theorem or_raw (x y : Int) (b : Nat) (W : World) (h0 : W.cell? ⟨b, 0, none⟩ = some (.int .i64 x)) (h1 : W.cell? ⟨b, 1, none⟩ = some (.int .i64 y)) :
    Calls Try.prog 58 #[.slice (some ⟨b, 0, none⟩) 2 2] W fun e w' => e = .returned (.int .i64 (if x = 0 then y else x)) ∧ w' = W := by
  obtain ⟨r, hr, r1, r2⟩ : ∃ r, (if x = 0 then y else x) = r ∧ (x ≠ 0 → r = x) ∧ (x = 0 → r = y) := ⟨_, rfl, fun h => by simp [h], fun h => by simp [h]⟩
  rw [hr]
  clear hr
  go_enter Try.func58, Try.ntmps58
  go_wp2
  go_loop [5, 8] (fun _ i => ∃ k : Nat, k ≤ 2 ∧ i = .int .i64 k ∧ (0 < k → x = 0) ∧ (1 < k → y = 0)) (fun _ i => match i with | .int _ m => 2 - m.toNat | _ => 0)
  case atStart => exact ⟨0, by omega, rfl, by omega, by omega⟩
  case round =>
    obtain ⟨k, hk, rfl, hx, hy⟩ := hrel
    have h3 : k = 0 ∨ k = 1 ∨ k = 2 := by omega
    rcases h3 with rfl | rfl | rfl
    · go_wp2
      · have hq : (x != 0) = true := by assumption
        have := r1 (by simpa using hq)
        subst this
        go_ret
        exact ⟨rfl, rfl⟩
      · have hq : (x != 0) = false := by assumption
        exact ⟨⟨1, by omega, rfl, fun _ => by simpa using hq, by omega⟩, by decide⟩
    · have e0 := hx (by omega)
      have := r2 e0
      subst this
      go_wp2
      · go_ret
        exact ⟨rfl, rfl⟩
      · have hq : (r != 0) = false := by assumption
        exact ⟨⟨2, by omega, rfl, fun _ => e0, fun _ => by simpa using hq⟩, by decide⟩
    · have e0 := hx (by omega)
      have e1 := hy (by omega)
      have := r2 e0
      subst this
      go_wp2
      go_ret
      exact ⟨rfl, rfl⟩
theorem or_raw2 (x y r : Int) (b : Nat) (W : World) (hr : (if x = 0 then y else x) = r) (h0 : W.cell? ⟨b, 0, none⟩ = some (.int .i64 x)) (h1 : W.cell? ⟨b, 1, none⟩ = some (.int .i64 y)) :
    Calls Try.prog 58 #[.slice (some ⟨b, 0, none⟩) 2 2] W fun e w' => e = .returned (.int .i64 r) ∧ w' = W := by
  rw [← hr]; exact or_raw x y b W h0 h1
/-- the closure that compares, wherever: it lays blocks, it draws, and leaves all else -/
def encT (x : Th) : List Value := [.int .i64 x.due, .int .i64 x.key]
set_option maxHeartbeats 1000000 in
theorem set2_raw (x y : Th) (W : World) : Calls Try.prog 57 #[.agg #[.int .i64 x.due, .int .i64 x.key], .agg #[.int .i64 y.due, .int .i64 y.key]] W fun e w' => e = .returned (.int .i64 (cmpT x y)) ∧ ∃ q os', w' = grow (W.drewN q) os' := by
  obtain ⟨a, b⟩ := x
  obtain ⟨c, d⟩ := y
  obtain ⟨r, hr⟩ : ∃ r, (if cmpI a c = 0 then cmpI b d else cmpI a c) = r := ⟨_, rfl⟩
  have hc : cmpT ⟨a, b⟩ ⟨c, d⟩ = r := hr
  rw [hc]
  clear hc
  go_enter Try.func57, Try.ntmps57
  go_wp2_with fail
  go_region_held3 (fun w' => w'.cell? ⟨W.heap.size, 0, none⟩ = some (.int .i64 a) ∧ w'.cell? ⟨W.heap.size, 1, none⟩ = some (.int .i64 b) ∧ w'.cell? ⟨W.heap.size + 1, 0, none⟩ = some (.int .i64 c) ∧ w'.cell? ⟨W.heap.size + 1, 1, none⟩ = some (.int .i64 d)) (go_keep)
    (first | (go_at_call 59; refine (cmp_raw _ _ _).mono ?_; rintro e w' ⟨rfl, rfl⟩) | (go_at_call 58; refine (or_raw2 (cmpI a c) (cmpI b d) r _ _ hr (by simp; rw [World.cell?_alloc_at _ _ _ _ (by simp)]; rfl) (by simp; rw [World.cell?_alloc_at _ _ _ _ (by simp)]; rfl)).mono ?_; rintro e w' ⟨rfl, rfl⟩))
  go_wp2
  go_ret
  exact ⟨rfl, 1, _, by rw [alloc_eq_grow, alloc_eq_grow, alloc_eq_grow, grow_grow, grow_grow]; rfl⟩
theorem ltOf_T (x y : Th) : ltOf cmpT x y = decide (Th.lt x y) := by
  unfold ltOf
  rw [Bool.eq_iff_iff, decide_eq_true_eq, decide_eq_true_eq]
  exact cmpT_lt x y
theorem swo_T : SWO (ltOf cmpT) where
  irrefl x := by rw [ltOf_T]; simp [Th.lt_irrefl]
  trans x y z h1 h2 := by rw [ltOf_T] at *; simp only [decide_eq_true_eq] at *; exact Th.lt_trans h1 h2
  ntrans x y z h1 h2 := by rw [ltOf_T] at *; simp only [decide_eq_false_iff_not] at *; exact Th.le_trans h2 h1
instance : Inhabited Th := ⟨⟨0, 0⟩⟩
theorem sort_raw (blk off cap : Nat) (d : Array Th) (w : World) (hH : HoldsK encT 2 w blk off d) (hblk : blk < w.heap.size) (hsz : d.size < 4611686018427387904) :
    Calls Try.prog 56 #[.slice (some ⟨blk, off, none⟩) d.size cap, .func (.func 57) #[] #[]] w fun e w' =>
      e = .returned (.tuple #[]) ∧ ∃ d' n os, PermIn 0 d.size d d' ∧ SortedIn (ltOf cmpT) 0 d.size d' ∧ w' = sortWorldK encT 2 w blk off n d' os :=
  AnyQ.slices_SortFunc sortTh 2 Try.isAgg93 Try.sizeOf93 encT (fun _ => rfl) (fun x v hv => by simp [encT] at hv; rcases hv with rfl | rfl <;> rfl) cmpT swo_T 57 #[] blk off cap d w
    (enters_of Try.func57 (by kernel_rfl) rfl) (fun _ _ _ _ x y => set2_raw x y _) hH hblk hsz
end Go.Proofs.Ytaahkamnpobofaa
