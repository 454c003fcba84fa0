/- The law BadgeNames: called, it comes to true; no condition. (Printed by wip/tools/gen_names26.py.) -/
import Derived.Test.YtaahkamnpobofaaLawBack
namespace Go.Proofs.Ytaahkamnpobofaa
open Go.Ab
theorem cb {most : Int} {x : UInt8} {r : List UInt8} (hx : x.toNat < 128) (hm : (x.toNat : Int) ≤ most) : cntO most (some (x :: r)) = (x.toNat, some r) := by
  have h := cntO_enc (u := x.toNat) r hm (by omega)
  rw [enc_small hx] at h
  simpa using h
theorem litB (g : Hp) (l : List UInt8) : Bytes (g ++ [Blk.cells (l.map byteV) false none]) (.slice (some ⟨g.length, 0, none⟩) l.length l.length) l := by
  refine ⟨⟨_, _, rfl⟩, ?_, ?_⟩
  · cases l with
    | nil => simp [srcA]
    | cons x l => simp [srcA]; exact List.take_of_length_le (by simp)
  · simp
theorem ld0 : loadD [0, 0] = some (0, []) := by simp [loadD, readB, cb]
theorem ld1 : loadD [1, 1, 2, 1, 0, 1, 0] = none := by simp [loadD, readB, oneB, cb, Bd.good, busyB, inWay, taskB]
theorem ld2 : loadD [1, 1, 0, 1, 0, 1, 0] = none := by simp [loadD, readB, oneB, cb, Bd.good, busyB, inWay, taskB]
theorem ld3 : loadD [1, 1, 1, 1, 24, 1, 0] = none := by simp [loadD, readB, oneB, cb, Bd.good, busyB, inWay, taskB]
theorem ld4 : loadD [2, 2, 1, 1, 0, 1, 0, 2, 1, 0, 2, 0] = none := by simp [loadD, readB, oneB, cb, Bd.good, busyB, inWay, taskB]
theorem ld5 : loadD [2, 2, 1, 1, 0, 1, 0, 2, 1, 1, 1, 0] = none := by simp [loadD, readB, oneB, cb, Bd.good, busyB, inWay, taskB]
theorem ld6 : loadD [2, 2, 2, 1, 0, 1, 0, 1, 1, 1, 2, 0] = none := by simp [loadD, readB, oneB, cb, Bd.good, busyB, inWay, taskB]
theorem ld7 : loadD [2, 2, 1, 1, 0, 1, 0, 2, 1, 1, 2, 0] = some (2, [⟨1, 1, 0, 1, 0⟩, ⟨2, 1, 1, 2, 0⟩]) := by simp [loadD, readB, oneB, cb, Bd.good, busyB, inWay, taskB]
theorem nGive_ev (h : Hp) : EvA Try.prog 15 [.pointer none, .int .i64 0, .int .i64 0, .int .i64 0, .int .i64 0] (fun r _ => r = .tuple #[.int .i64 0, .int .i64 2]) h := by
  refine EvA.body Try.func15 rfl (by kernel_rfl) (by simp) ?_
  apply Run.ok
  simp [spl]
theorem nCheck_ev (h : Hp) : EvA Try.prog 40 [.pointer none, .int .i64 1] (fun r _ => r = .tuple #[.agg #[.int .i64 0, .int .i64 0, .int .i64 0, .int .i64 0], .int .i64 2]) h := by
  refine EvA.body Try.func40 rfl (by kernel_rfl) (by simp) ?_
  apply Run.ok
  simp [spl]
theorem nOf_ev (h : Hp) : EvA Try.prog 43 [.pointer none, .int .i64 1, .int .i64 0] (fun r _ => r = .tuple #[.int .i64 0, .bool false]) h := by
  refine EvA.body Try.func43 rfl (by kernel_rfl) (by simp) ?_
  apply Run.ok
  simp [zeros]
theorem nBeat_ev (h : Hp) : EvA Try.prog 17 [.pointer none, .int .i64 1, .int .i64 (-1)] (fun r _ => r = .int .i64 2) h := by
  refine EvA.body Try.func17 rfl (by kernel_rfl) (by simp) ?_
  apply Run.ok
  simp [zeros]
theorem nDrop_ev (h : Hp) : EvA Try.prog 18 [.pointer none, .int .i64 1] (fun r _ => r = .int .i64 2) h := by
  refine EvA.body Try.func18 rfl (by kernel_rfl) (by simp) ?_
  apply Run.ok
  simp [zeros]
  refine after_call (nCheck_ev _) ?_
  rintro w h2 rfl
  simp
theorem nExpired_ev (h : Hp) : EvA Try.prog 16 [.pointer none, .int .i64 9, .int .i64 1] (fun r _ => r = .slice none 0 0) h := by
  refine EvA.body Try.func16 rfl (by kernel_rfl) (by simp) ?_
  apply Run.ok
  simp [zeros]
theorem nSave_ev (h : Hp) : EvA Try.prog 28 [.pointer none] (fun r _ => r = .slice none 0 0) h := by
  refine EvA.body Try.func28 rfl (by kernel_rfl) (by simp) ?_
  apply Run.ok
  simp [zeros]
theorem nLast_ev (h : Hp) : EvA Try.prog 41 [.pointer none] (fun r _ => r = .int .i64 0) h := by
  refine EvA.body Try.func41 rfl (by kernel_rfl) (by simp) ?_
  apply Run.ok
  simp [zeros]
theorem nCount_ev (h : Hp) : EvA Try.prog 42 [.pointer none] (fun r _ => r = .int .i64 0) h := by
  refine EvA.body Try.func42 rfl (by kernel_rfl) (by simp) ?_
  apply Run.ok
  simp [zeros]
set_option maxHeartbeats 16000000 in
set_option maxRecDepth 20000 in
theorem names26_ev (h : Hp) : EvA Try.prog 10 [] (fun r _ => r = .bool true) h := by
  refine EvA.body Try.func10 rfl (by kernel_rfl) (by simp) ?_
  apply Run.ok
  simp
  refine after_call (works26_ev _) ?_
  rintro w g ⟨e9, rfl⟩
  subst e9
  simp
  refine after_call (new26_no _ (by decide)) ?_
  rintro w g ⟨rfl, rfl⟩
  simp
  refine after_call (new26_no _ (by decide)) ?_
  rintro w g ⟨rfl, rfl⟩
  simp
  refine after_call (new26_ok _ (by omega) (by omega)) ?_
  rintro w ga ⟨rfl, r, sm⟩
  simp
  refine after_call (give_ev r ⟨0, 1, 0, 1, 0⟩) ?_
  rintro w gb ⟨rfl, _, _⟩
  have e0 : giveE 2147483647 [] ⟨0, 1, 0, 1, 0⟩ = 70 := by decide +kernel
  obtain ⟨e1, e2, e3⟩ := ge2 _ _ _ e0 (by decide)
  rw [e0, e3]
  clear e0 e1 e2 e3 r sm
  simp
  refine after_call (new26_ok _ (by omega) (by omega)) ?_
  rintro w g0 ⟨rfl, r, sm⟩
  obtain ⟨k, hk⟩ : ∃ k, k = gb.length := ⟨_, rfl⟩
  rw [← hk] at r ⊢
  clear sm
  simp
  refine after_call (give_ev r ⟨0, 0, 0, 1, 0⟩) ?_
  rintro w g1 ⟨rfl, r, u⟩
  have e0 : giveE 2147483646 [] ⟨0, 0, 0, 1, 0⟩ = 1 := by decide +kernel
  obtain ⟨e1, e2, e3⟩ := ge2 _ _ _ e0 (by decide)
  rw [e1, e2] at r
  rw [e0, e3]
  have r : DeskR g1 k (k + 1) k 2147483646 [] := r
  clear e0 e1 e2 e3 u
  simp
  refine after_call (give_ev r ⟨0, 2147483648, 0, 1, 0⟩) ?_
  rintro w g2 ⟨rfl, r, u⟩
  have e0 : giveE 2147483646 [] ⟨0, 2147483648, 0, 1, 0⟩ = 1 := by decide +kernel
  obtain ⟨e1, e2, e3⟩ := ge2 _ _ _ e0 (by decide)
  rw [e1, e2] at r
  rw [e0, e3]
  have r : DeskR g2 k (k + 1) k 2147483646 [] := r
  clear e0 e1 e2 e3 u
  simp
  refine after_call (give_ev r ⟨0, 1, (-1), 1, 0⟩) ?_
  rintro w g3 ⟨rfl, r, u⟩
  have e0 : giveE 2147483646 [] ⟨0, 1, (-1), 1, 0⟩ = 1 := by decide +kernel
  obtain ⟨e1, e2, e3⟩ := ge2 _ _ _ e0 (by decide)
  rw [e1, e2] at r
  rw [e0, e3]
  have r : DeskR g3 k (k + 1) k 2147483646 [] := r
  clear e0 e1 e2 e3 u
  simp
  refine after_call (give_ev r ⟨0, 1, 24, 1, 0⟩) ?_
  rintro w g4 ⟨rfl, r, u⟩
  have e0 : giveE 2147483646 [] ⟨0, 1, 24, 1, 0⟩ = 1 := by decide +kernel
  obtain ⟨e1, e2, e3⟩ := ge2 _ _ _ e0 (by decide)
  rw [e1, e2] at r
  rw [e0, e3]
  have r : DeskR g4 k (k + 1) k 2147483646 [] := r
  clear e0 e1 e2 e3 u
  simp
  refine after_call (give_ev r ⟨0, 1, 0, 0, 0⟩) ?_
  rintro w g5 ⟨rfl, r, u⟩
  have e0 : giveE 2147483646 [] ⟨0, 1, 0, 0, 0⟩ = 1 := by decide +kernel
  obtain ⟨e1, e2, e3⟩ := ge2 _ _ _ e0 (by decide)
  rw [e1, e2] at r
  rw [e0, e3]
  have r : DeskR g5 k (k + 1) k 2147483646 [] := r
  clear e0 e1 e2 e3 u
  simp
  refine after_call (give_ev r ⟨0, 1, 0, 5, 0⟩) ?_
  rintro w g6 ⟨rfl, r, u⟩
  have e0 : giveE 2147483646 [] ⟨0, 1, 0, 5, 0⟩ = 1 := by decide +kernel
  obtain ⟨e1, e2, e3⟩ := ge2 _ _ _ e0 (by decide)
  rw [e1, e2] at r
  rw [e0, e3]
  have r : DeskR g6 k (k + 1) k 2147483646 [] := r
  clear e0 e1 e2 e3 u
  simp
  refine after_call (give_ev r ⟨0, 1, 0, 1, (-1)⟩) ?_
  rintro w g7 ⟨rfl, r, u⟩
  have e0 : giveE 2147483646 [] ⟨0, 1, 0, 1, (-1)⟩ = 1 := by decide +kernel
  obtain ⟨e1, e2, e3⟩ := ge2 _ _ _ e0 (by decide)
  rw [e1, e2] at r
  rw [e0, e3]
  have r : DeskR g7 k (k + 1) k 2147483646 [] := r
  clear e0 e1 e2 e3 u
  simp
  refine after_call (give_ev r ⟨0, 1, 0, 1, 2147483648⟩) ?_
  rintro w g8 ⟨rfl, r, u⟩
  have e0 : giveE 2147483646 [] ⟨0, 1, 0, 1, 2147483648⟩ = 1 := by decide +kernel
  obtain ⟨e1, e2, e3⟩ := ge2 _ _ _ e0 (by decide)
  rw [e1, e2] at r
  rw [e0, e3]
  have r : DeskR g8 k (k + 1) k 2147483646 [] := r
  clear e0 e1 e2 e3 u
  simp
  refine after_call (give_ev r ⟨0, 2147483647, 23, 4, 2147483647⟩) ?_
  rintro w g9 ⟨rfl, r, u⟩
  have e0 : giveE 2147483646 [] ⟨0, 2147483647, 23, 4, 2147483647⟩ = 0 := by decide +kernel
  obtain ⟨e1, e2, e3⟩ := ge1 _ _ _ e0
  rw [e1, e2] at r
  rw [e0, e3]
  have r : DeskR g9 k (k + 1) k 2147483647 [⟨2147483647, 2147483647, 23, 4, 2147483647⟩] := r
  clear e0 e1 e2 e3 u
  simp
  refine after_call (give_ev r ⟨0, 2147483647, 23, 4, 0⟩) ?_
  rintro w g10 ⟨rfl, r, u⟩
  have e0 : giveE 2147483647 [⟨2147483647, 2147483647, 23, 4, 2147483647⟩] ⟨0, 2147483647, 23, 4, 0⟩ = 61 := by decide +kernel
  obtain ⟨e1, e2, e3⟩ := ge2 _ _ _ e0 (by decide)
  rw [e1, e2] at r
  rw [e0, e3]
  have r : DeskR g10 k (k + 1) k 2147483647 [⟨2147483647, 2147483647, 23, 4, 2147483647⟩] := r
  clear e0 e1 e2 e3 u
  simp
  refine after_call (give_ev r ⟨0, 1, 0, 1, 0⟩) ?_
  rintro w g11 ⟨rfl, r, u⟩
  have e0 : giveE 2147483647 [⟨2147483647, 2147483647, 23, 4, 2147483647⟩] ⟨0, 1, 0, 1, 0⟩ = 70 := by decide +kernel
  obtain ⟨e1, e2, e3⟩ := ge2 _ _ _ e0 (by decide)
  rw [e1, e2] at r
  rw [e0, e3]
  have r : DeskR g11 k (k + 1) k 2147483647 [⟨2147483647, 2147483647, 23, 4, 2147483647⟩] := r
  clear e0 e1 e2 e3 u
  simp
  refine after_call (beat_ev r 2147483647 (-1)) ?_
  rintro w g12 ⟨rfl, r, u⟩
  have e0 : beatE [⟨2147483647, 2147483647, 23, 4, 2147483647⟩] 2147483647 (-1) = 1 := by decide +kernel
  rw [e0] at r ⊢
  have r : DeskR g12 k (k + 1) k 2147483647 [⟨2147483647, 2147483647, 23, 4, 2147483647⟩] := r
  clear e0 u
  simp
  refine after_call (beat_ev r 0 2147483648) ?_
  rintro w g13 ⟨rfl, r, u⟩
  have e0 : beatE [⟨2147483647, 2147483647, 23, 4, 2147483647⟩] 0 2147483648 = 1 := by decide +kernel
  rw [e0] at r ⊢
  have r : DeskR g13 k (k + 1) k 2147483647 [⟨2147483647, 2147483647, 23, 4, 2147483647⟩] := r
  clear e0 u
  simp
  refine after_call (beat_ev r 0 1) ?_
  rintro w g14 ⟨rfl, r, u⟩
  have e0 : beatE [⟨2147483647, 2147483647, 23, 4, 2147483647⟩] 0 1 = 60 := by decide +kernel
  rw [e0] at r ⊢
  have r : DeskR g14 k (k + 1) k 2147483647 [⟨2147483647, 2147483647, 23, 4, 2147483647⟩] := r
  clear e0 u
  simp
  refine after_call (beat_ev r 2147483647 5) ?_
  rintro w g15 ⟨rfl, r, u⟩
  have e0 : beatE [⟨2147483647, 2147483647, 23, 4, 2147483647⟩] 2147483647 5 = 0 := by decide +kernel
  rw [e0] at r ⊢
  have r : DeskR g15 k (k + 1) k 2147483647 [⟨2147483647, 2147483647, 23, 4, 2147483647⟩] := r
  clear e0 u
  simp
  refine after_call (dropC_ev r 0) ?_
  rintro w g16 ⟨rfl, r, u⟩
  have e0 : (if (atL [⟨2147483647, 2147483647, 23, 4, 2147483647⟩] 0).isNone = true then (60 : Int) else 0) = 60 := by decide +kernel
  rw [e0]
  have r : DeskR g16 k (k + 1) k 2147483647 [⟨2147483647, 2147483647, 23, 4, 2147483647⟩] := r
  clear e0 u
  simp
  refine after_call (expired_ev r (-9223372036854775808) 1 (by decide)) ?_
  rintro w g17 ⟨A, s⟩
  have e0 : lateL [⟨2147483647, 2147483647, 23, 4, 2147483647⟩] (-9223372036854775808) 1 = [] := by decide +kernel
  rw [e0] at A
  have r := r.same s
  have la := NLen A
  simp [la, -load_ptr]
  clear e0 A s la
  refine after_call (expired_ev r 9223372036854775807 0 (by decide)) ?_
  rintro w g18 ⟨A, s⟩
  have e0 : lateL [⟨2147483647, 2147483647, 23, 4, 2147483647⟩] 9223372036854775807 0 = [] := by decide +kernel
  rw [e0] at A
  have r := r.same s
  have la := NLen A
  simp [la, -load_ptr]
  clear e0 A s la
  refine after_call (expired_ev r 9223372036854775807 4611686018427387904 (by decide)) ?_
  rintro w g19 ⟨A, s⟩
  have e0 : lateL [⟨2147483647, 2147483647, 23, 4, 2147483647⟩] 9223372036854775807 4611686018427387904 = [2147483647] := by decide +kernel
  rw [e0] at A
  have r := r.same s
  have la := NLen A
  simp [la, -load_ptr]
  clear e0 A s la
  refine after_call (expired_ev r 2147483647 1 (by decide)) ?_
  rintro w g20 ⟨A, s⟩
  have e0 : lateL [⟨2147483647, 2147483647, 23, 4, 2147483647⟩] 2147483647 1 = [] := by decide +kernel
  rw [e0] at A
  have r := r.same s
  have la := NLen A
  simp [la, -load_ptr]
  clear e0 A s la
  refine after_call (expired_ev r 2147483648 1 (by decide)) ?_
  rintro w g21 ⟨A, s⟩
  have e0 : lateL [⟨2147483647, 2147483647, 23, 4, 2147483647⟩] 2147483648 1 = [2147483647] := by decide +kernel
  rw [e0] at A
  have r := r.same s
  have la := NLen A
  simp [la, -load_ptr]
  clear e0 A s la
  refine after_call (count26_ev r) ?_
  rintro w g22 ⟨e9, rfl⟩
  subst e9
  simp
  refine after_call (last26_ev r) ?_
  rintro w g23 ⟨e9, rfl⟩
  subst e9
  simp
  refine after_call (dropC_ev r 2147483647) ?_
  rintro w g24 ⟨rfl, r, u⟩
  have e0 : (if (atL [⟨2147483647, 2147483647, 23, 4, 2147483647⟩] 2147483647).isNone = true then (60 : Int) else 0) = 0 := by decide +kernel
  rw [e0]
  have r : DeskR g24 k (k + 1) k 2147483647 [] := r
  clear e0 u
  simp
  refine after_call (dropC_ev r 2147483647) ?_
  rintro w g25 ⟨rfl, r, u⟩
  have e0 : (if (atL [] 2147483647).isNone = true then (60 : Int) else 0) = 60 := by decide +kernel
  rw [e0]
  have r : DeskR g25 k (k + 1) k 2147483647 [] := r
  clear e0 u
  simp
  refine after_call (last26_ev r) ?_
  rintro w g26 ⟨e9, rfl⟩
  subst e9
  simp
  clear r
  have hb : Bytes (g26 ++ [Blk.cells [.int .u8 0, .int .u8 0] false none]) (.slice (some ⟨g26.length, 0, none⟩) 2 2) [0, 0] := litB g26 [0, 0]
  simp [zeros, capO]
  refine after_call (load_ev hb (by decide)) ?_
  rintro w g27 ⟨s, hq⟩
  have sn := (Same.new [Blk.cells [.int .u8 0, .int .u8 0] false none] : Same g26 _).trans s
  rw [ld0] at hq
  obtain ⟨dld0, bld0, rfl, rld0⟩ := hq
  clear hb s sn
  have hb : Bytes (g27 ++ [Blk.cells [.int .u8 1, .int .u8 1, .int .u8 2, .int .u8 1, .int .u8 0, .int .u8 1, .int .u8 0] false none]) (.slice (some ⟨g27.length, 0, none⟩) 7 7) [1, 1, 2, 1, 0, 1, 0] := litB g27 [1, 1, 2, 1, 0, 1, 0]
  simp [spl, zeros, capO]
  refine after_call (load_ev hb (by decide)) ?_
  rintro w g28 ⟨s, hq⟩
  have sn := (Same.new [Blk.cells [.int .u8 1, .int .u8 1, .int .u8 2, .int .u8 1, .int .u8 0, .int .u8 1, .int .u8 0] false none] : Same g27 _).trans s
  have rld0 := rld0.same sn
  rw [ld1] at hq
  simp only at hq
  subst hq
  clear hb s sn
  have hb : Bytes (g28 ++ [Blk.cells [.int .u8 1, .int .u8 1, .int .u8 0, .int .u8 1, .int .u8 0, .int .u8 1, .int .u8 0] false none]) (.slice (some ⟨g28.length, 0, none⟩) 7 7) [1, 1, 0, 1, 0, 1, 0] := litB g28 [1, 1, 0, 1, 0, 1, 0]
  simp [spl, zeros, capO]
  refine after_call (load_ev hb (by decide)) ?_
  rintro w g29 ⟨s, hq⟩
  have sn := (Same.new [Blk.cells [.int .u8 1, .int .u8 1, .int .u8 0, .int .u8 1, .int .u8 0, .int .u8 1, .int .u8 0] false none] : Same g28 _).trans s
  have rld0 := rld0.same sn
  rw [ld2] at hq
  simp only at hq
  subst hq
  clear hb s sn
  have hb : Bytes (g29 ++ [Blk.cells [.int .u8 1, .int .u8 1, .int .u8 1, .int .u8 1, .int .u8 24, .int .u8 1, .int .u8 0] false none]) (.slice (some ⟨g29.length, 0, none⟩) 7 7) [1, 1, 1, 1, 24, 1, 0] := litB g29 [1, 1, 1, 1, 24, 1, 0]
  simp [spl, zeros, capO]
  refine after_call (load_ev hb (by decide)) ?_
  rintro w g30 ⟨s, hq⟩
  have sn := (Same.new [Blk.cells [.int .u8 1, .int .u8 1, .int .u8 1, .int .u8 1, .int .u8 24, .int .u8 1, .int .u8 0] false none] : Same g29 _).trans s
  have rld0 := rld0.same sn
  rw [ld3] at hq
  simp only at hq
  subst hq
  clear hb s sn
  have hb : Bytes (g30 ++ [Blk.cells [.int .u8 2, .int .u8 2, .int .u8 1, .int .u8 1, .int .u8 0, .int .u8 1, .int .u8 0, .int .u8 2, .int .u8 1, .int .u8 0, .int .u8 2, .int .u8 0] false none]) (.slice (some ⟨g30.length, 0, none⟩) 12 12) [2, 2, 1, 1, 0, 1, 0, 2, 1, 0, 2, 0] := litB g30 [2, 2, 1, 1, 0, 1, 0, 2, 1, 0, 2, 0]
  simp [spl, zeros, capO]
  refine after_call (load_ev hb (by decide)) ?_
  rintro w g31 ⟨s, hq⟩
  have sn := (Same.new [Blk.cells [.int .u8 2, .int .u8 2, .int .u8 1, .int .u8 1, .int .u8 0, .int .u8 1, .int .u8 0, .int .u8 2, .int .u8 1, .int .u8 0, .int .u8 2, .int .u8 0] false none] : Same g30 _).trans s
  have rld0 := rld0.same sn
  rw [ld4] at hq
  simp only at hq
  subst hq
  clear hb s sn
  have hb : Bytes (g31 ++ [Blk.cells [.int .u8 2, .int .u8 2, .int .u8 1, .int .u8 1, .int .u8 0, .int .u8 1, .int .u8 0, .int .u8 2, .int .u8 1, .int .u8 1, .int .u8 1, .int .u8 0] false none]) (.slice (some ⟨g31.length, 0, none⟩) 12 12) [2, 2, 1, 1, 0, 1, 0, 2, 1, 1, 1, 0] := litB g31 [2, 2, 1, 1, 0, 1, 0, 2, 1, 1, 1, 0]
  simp [spl, zeros, capO]
  refine after_call (load_ev hb (by decide)) ?_
  rintro w g32 ⟨s, hq⟩
  have sn := (Same.new [Blk.cells [.int .u8 2, .int .u8 2, .int .u8 1, .int .u8 1, .int .u8 0, .int .u8 1, .int .u8 0, .int .u8 2, .int .u8 1, .int .u8 1, .int .u8 1, .int .u8 0] false none] : Same g31 _).trans s
  have rld0 := rld0.same sn
  rw [ld5] at hq
  simp only at hq
  subst hq
  clear hb s sn
  have hb : Bytes (g32 ++ [Blk.cells [.int .u8 2, .int .u8 2, .int .u8 2, .int .u8 1, .int .u8 0, .int .u8 1, .int .u8 0, .int .u8 1, .int .u8 1, .int .u8 1, .int .u8 2, .int .u8 0] false none]) (.slice (some ⟨g32.length, 0, none⟩) 12 12) [2, 2, 2, 1, 0, 1, 0, 1, 1, 1, 2, 0] := litB g32 [2, 2, 2, 1, 0, 1, 0, 1, 1, 1, 2, 0]
  simp [spl, zeros, capO]
  refine after_call (load_ev hb (by decide)) ?_
  rintro w g33 ⟨s, hq⟩
  have sn := (Same.new [Blk.cells [.int .u8 2, .int .u8 2, .int .u8 2, .int .u8 1, .int .u8 0, .int .u8 1, .int .u8 0, .int .u8 1, .int .u8 1, .int .u8 1, .int .u8 2, .int .u8 0] false none] : Same g32 _).trans s
  have rld0 := rld0.same sn
  rw [ld6] at hq
  simp only at hq
  subst hq
  clear hb s sn
  have hb : Bytes (g33 ++ [Blk.cells [.int .u8 2, .int .u8 2, .int .u8 1, .int .u8 1, .int .u8 0, .int .u8 1, .int .u8 0, .int .u8 2, .int .u8 1, .int .u8 1, .int .u8 2, .int .u8 0] false none]) (.slice (some ⟨g33.length, 0, none⟩) 12 12) [2, 2, 1, 1, 0, 1, 0, 2, 1, 1, 2, 0] := litB g33 [2, 2, 1, 1, 0, 1, 0, 2, 1, 1, 2, 0]
  simp [spl, zeros, capO]
  refine after_call (load_ev hb (by decide)) ?_
  rintro w g34 ⟨s, hq⟩
  have sn := (Same.new [Blk.cells [.int .u8 2, .int .u8 2, .int .u8 1, .int .u8 1, .int .u8 0, .int .u8 1, .int .u8 0, .int .u8 2, .int .u8 1, .int .u8 1, .int .u8 2, .int .u8 0] false none] : Same g33 _).trans s
  have rld0 := rld0.same sn
  rw [ld7] at hq
  obtain ⟨dld7, bld7, rfl, rld7⟩ := hq
  clear hb s sn
  simp
  refine after_call (last26_ev rld0) ?_
  rintro w g35 ⟨e9, rfl⟩
  subst e9
  simp
  refine after_call (count26_ev rld7) ?_
  rintro w g36 ⟨e9, rfl⟩
  subst e9
  simp
  refine after_call (nGive_ev _) ?_
  rintro w h1 rfl
  simp
  refine after_call (nCheck_ev _) ?_
  rintro w h2 rfl
  simp [spl]
  refine after_call (nOf_ev _) ?_
  rintro w h3 rfl
  simp
  refine after_call (nBeat_ev _) ?_
  rintro w h4 rfl
  simp
  refine after_call (nDrop_ev _) ?_
  rintro w h5 rfl
  simp
  refine after_call (nExpired_ev _) ?_
  rintro w h6 rfl
  have z1 : lenA Try.prog 22 (.slice none 0 0) h6 = some (.int .i64 0) := by have := (Acc.nil (h := h6) (z := 1) 0).row.len (P := Try.prog) (t := 22) (e := 3) (by simp); simpa using this
  simp [z1]
  refine after_call (nSave_ev _) ?_
  rintro w h7 rfl
  have z2 : lenA Try.prog 42 (.slice none 0 0) h7 = some (.int .i64 0) := by have := (Acc.nil (h := h7) (z := 1) 0).row.len (P := Try.prog) (t := 42) (e := 5) (by simp); simpa using this
  simp [z2]
  refine after_call (nLast_ev _) ?_
  rintro w h8 rfl
  simp
  refine after_call (nCount_ev _) ?_
  rintro w h9 rfl
  simp
theorem badgeNames_ev : EvA Try.prog 10 [] (fun r _ => r = .bool true) [] := names26_ev []
end Go.Proofs.Ytaahkamnpobofaa
