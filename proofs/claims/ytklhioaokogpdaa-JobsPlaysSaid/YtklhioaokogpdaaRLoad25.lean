/- bastionref25.Load: the jobs of any bytes, as the document says; no condition. -/
import Derived.Test.YtklhioaokogpdaaRCould
import Derived.Test.YtklhioaokogpdaaLoad25
namespace Go.Proofs.Ytklhioaokogpdaa
open Go.Ab
theorem stc {h : Hp} {q j : Nat} {cs : List Value} {t : TypeId} {x : Value} (hB : h[q]? = some (.cells cs false none)) (hs : sizeT Try.prog t = some 1) (hx : cellsOf x = some [x]) (ho : oneA x = true) (hj : j < cs.length) :
    storeA Try.prog t (.pointer (some ⟨q, j, none⟩)) x h = some (h.set q (.cells (cs.set j x) false none)) := by
  simp only [storeA, hB, hx, hs]
  rw [if_pos ⟨rfl, by simp; omega, by simp [ho]⟩]
  simp [spl]
set_option maxHeartbeats 4000000 in
set_option maxRecDepth 6000 in
theorem rload25_ev {h : Hp} {v w : Value} {ps : List Pj} {js : List Jb} {bs : List UInt8} (p : PlanR h v ps) (cv : Conv ps js) (hw : Bytes h w bs) (hb : bs.length ≤ 1000000) :
    EvA Try.prog 49 [.agg #[v], w] (fun r h' => Same h h' ∧ ((mayP ps = false ∧ r = .tuple #[.pointer none, .int .i64 1]) ∨
      (mayP ps = true ∧ ((∃ c rv L, IsJs js bs L ∧ r = .tuple #[.pointer (some ⟨c, 0, none⟩), .int .i64 0] ∧ RJ h' h.length c v rv L) ∨ ((∀ L, ¬ IsJs js bs L) ∧ r = .tuple #[.pointer none, .int .i64 4]))))) h := by
  refine EvA.body Try.func49 rfl (by kernel_rfl) (by simp) ?_
  apply Run.ok
  have hcv := (Row.one p.row.1).1
  have hov := (Row.one p.row.1).2
  simp [hcv, hov]
  have s1 : Same h (h ++ [.cells [v] false none]) := Same.new _
  have hB : (h ++ [Blk.cells [v] false none])[h.length]? = some (.cells [v] false none) := by simp
  have hl1 : (h ++ [Blk.cells [v] false none]).length = h.length + 1 := by simp
  generalize h ++ [Blk.cells [v] false none] = h1 at s1 hB hl1 ⊢
  have l1 : ∀ g, Same h1 g → loadA Try.prog 50 (.pointer (some ⟨h.length, 0, none⟩)) g = some (.agg #[v]) := fun g s => by simp [s.at hB]
  have lj : ∀ g, Same h1 g → loadA Try.prog 48 (.pointer (some ⟨h.length, 0, none⟩)) g = some v := fun g s => by rw [load_at (s.at hB) (by simp)]; rfl
  refine after_call (rmay_ev (p.same s1)) ?_
  rintro r h2 ⟨rfl, s2⟩
  cases hm : mayP ps with
  | false =>
    simp
    exact s1.trans s2
  | true =>
    simp [l1 _ s2, cellsOf, spl, hov, -load_ptr]
    have s3 : Same h2 (h2 ++ [.cells [v, .slice none 0 0] false none]) := Same.new _
    have hno : ∀ j, ¬ inRow (.slice none 0 0) j := fun j hj => by obtain ⟨a, n, c, he, _⟩ := hj; cases he
    have m3 : RJ (h2 ++ [.cells [v, .slice none 0 0] false none]) h2.length h2.length v (.slice none 0 0) [] := ⟨by simp, Nat.le_refl _, Acc.nil _, fun j hj => absurd hj (hno j)⟩
    have hl3 : (h2 ++ [Blk.cells [v, .slice none 0 0] false none]).length = h2.length + 1 := by simp
    generalize h2 ++ [Blk.cells [v, .slice none 0 0] false none] = h3 at s3 m3 hl3 ⊢
    have sm3 := (s1.trans s2).trans s3
    refine after_call (rnewReader_o (hw.same sm3) (by omega)) ?_
    rintro r h4 ⟨rb, rfl, R4, s4⟩
    have m4 := m3.same s4
    have sm4 := sm3.trans s4
    have sh4 := (s2.trans s3).trans s4
    have hh2 := s2.len
    have hh3 := s3.len
    have hh4 := s4.len
    have hps := cv.1
    have h24 := (mayP_spec hm).1
    have ht : ∀ k, k < js.length → (js.getD k Jb.no).tries ≤ 5 := fun k hk => (cv.tries hm k hk).2
    obtain ⟨c, hc⟩ : ∃ c, c = h2.length := ⟨_, rfl⟩
    rw [← hc] at m4 ⊢
    obtain ⟨mb, hmb⟩ : ∃ mb, mb = h4.length := ⟨_, rfl⟩
    rw [← hmb] at R4
    have hrb := R4.1
    have hrb2 := R4.2.1
    simp
    refine WpA.loop (fun z fr g => ∃ (i : Nat) (o : Option (List UInt8)) (rv : Value) (L : List St), z = js.length - i ∧ i ≤ js.length ∧ fr 1 = w ∧ fr 2 = .pointer (some ⟨h.length, 0, none⟩) ∧ fr 6 = .pointer (some ⟨c, 0, none⟩) ∧ fr 7 = .pointer (some ⟨rb, 0, none⟩) ∧ fr 8 = .int .i64 (i : Nat) ∧ Same h g ∧ Same h1 g ∧ mb ≤ g.length ∧ RJ g c c v rv L ∧ RRO g h3.length mb rb o ∧ (∀ j, inRow rv j → mb ≤ j) ∧ L.length = i ∧ readJ 255 2147483647 js.length (some bs) = ((readJ 255 2147483647 (js.length - i) o).1, L ++ (readJ 255 2147483647 (js.length - i) o).2))
      (k := js.length) ⟨0, _, _, [], by simp, by omega, by simp, by simp, by simp [hc], by simp, by simp, sm4, sh4, by omega, by rw [hc] at m4 ⊢; exact m4, R4, fun j hj => absurd hj (hno j), rfl, by simp⟩ ?_
    clear m4 R4 sm4 s4 m3 sm3 sh4
    rintro z fr g ⟨i, o, rv, L, rfl, hi, f1, f2, f6, f7, f8, sm, sh, hmg, M, R, hrv, hLi, hrd⟩
    apply Run.ok
    have ljg := lj _ sh
    have PT := p.same sm
    have tp := PT.row.len (P := Try.prog) (t := 48) (e := 67) (by simp)
    by_cases d : i < js.length
    · have d' : (i : Int) < ps.length := by omega
      have wi : IntKind.i64.wrap ((i : Int) + 1) = (i : Int) + 1 := wrap_i64 (by omega) (by omega)
      rw [show js.length - i = (js.length - (i + 1)) + 1 by omega] at hrd
      simp only [readJ] at hrd
      simp [f1, f2, f6, f7, f8, ljg, tp, d', zeros, -load_ptr]
      have hcl := (M.lo (.inl rfl)).2
      have sq : Same g (g ++ [.cells [.int .u8 0, .int .i64 0, .int .i64 0, .int .i64 0, .int .i64 0, .bool false] false none]) := Same.new _
      have hq0 : (g ++ [Blk.cells [.int .u8 0, .int .i64 0, .int .i64 0, .int .i64 0, .int .i64 0, .bool false] false none])[g.length]? = some (.cells [.int .u8 0, .int .i64 0, .int .i64 0, .int .i64 0, .int .i64 0, .bool false] false none) := by simp
      generalize g ++ [Blk.cells [.int .u8 0, .int .i64 0, .int .i64 0, .int .i64 0, .int .i64 0, .bool false] false none] = ga at sq hq0 ⊢
      have Ma := M.same sq
      have Ra := R.same sq
      have sma := sm.trans sq
      have sha := sh.trans sq
      have hown : ∀ j, ownR c rv j → j < g.length ∧ j ≠ rb := fun j hj => ⟨(M.lo hj).2, fun e => by
        rcases hj with h1 | h1
        · omega
        · have := hrv j h1; omega⟩
      have keepM : ∀ {g1 g2 : Hp}, RJ g1 c c v rv L → Upd (· = rb) g1 g2 → RJ g2 c c v rv L := fun M u => M.upd u fun j hj e => (hown j hj).2 e
      have keepS : ∀ {g1 g2 : Hp}, Same h g1 → Upd (· = rb) g1 g2 → Same h g2 := fun s u => Upd.trans s u fun j hj e => by omega
      have keepH : ∀ {g1 g2 : Hp}, Same h1 g1 → Upd (· = rb) g1 g2 → Same h1 g2 := fun s u => Upd.trans s u fun j hj e => by omega
      have putM : ∀ {g1 g2 : Hp}, RJ g1 c c v rv L → Upd (· = g.length) g1 g2 → RJ g2 c c v rv L := fun M u => M.upd u fun j hj e => by have := (hown j hj).1; omega
      have putS : ∀ {g1 g2 : Hp}, Same h g1 → Upd (· = g.length) g1 g2 → Same h g2 := fun s u => Upd.trans s u fun j hj e => by omega
      have putH : ∀ {g1 g2 : Hp}, Same h1 g1 → Upd (· = g.length) g1 g2 → Same h1 g2 := fun s u => Upd.trans s u fun j hj e => by omega
      have putR : ∀ {g1 g2 : Hp} {o : Option (List UInt8)}, RRO g1 h3.length mb rb o → Upd (· = g.length) g1 g2 → RRO g2 h3.length mb rb o := fun R u => R.upd u fun j _ hj e => by omega
      have hgrb : g.length ≠ rb := by omega
      refine after_call (rcount_o 255 Ra) ?_
      rintro r1 k1 ⟨rfl, Rk1, uk1⟩
      have Mk1 := keepM Ma uk1
      have smk1 := keepS sma uk1
      have shk1 := keepH sha uk1
      have hk1 := uk1.at hq0 hgrb
      have hle := (cntO_le 255 o).2 (by omega)
      generalize (cntO 255 o) = co at Rk1 hrd hle ⊢
      obtain ⟨n1, o1⟩ := co
      simp only at Rk1 hrd hle ⊢
      have w8 : IntKind.u8.wrap (n1 : Int) = (n1 : Int) := wrap_u8 (by omega) (by omega)
      have e1 : storeA Try.prog 5 (.pointer (some ⟨g.length, 0, none⟩)) (.int .u8 (n1 : Nat)) k1 = some (k1.set g.length (.cells [.int .u8 (n1 : Nat), .int .i64 0, .int .i64 0, .int .i64 0, .int .i64 0, .bool false] false none)) := stc (t := 5) (j := 0) hk1 (by simp) rfl rfl (by simp)
      have up1 : Upd (· = g.length) k1 (k1.set g.length (.cells [.int .u8 (n1 : Nat), .int .i64 0, .int .i64 0, .int .i64 0, .int .i64 0, .bool false] false none)) := Upd.set (S := (· = g.length)) rfl _
      have hp1 : (k1.set g.length (.cells [.int .u8 (n1 : Nat), .int .i64 0, .int .i64 0, .int .i64 0, .int .i64 0, .bool false] false none))[g.length]? = some (.cells [.int .u8 (n1 : Nat), .int .i64 0, .int .i64 0, .int .i64 0, .int .i64 0, .bool false] false none) := by have := hp_lt hk1; simp [this]
      simp [f7, w8, e1, -load_ptr, -store_ptr]
      generalize k1.set g.length (.cells [.int .u8 (n1 : Nat), .int .i64 0, .int .i64 0, .int .i64 0, .int .i64 0, .bool false] false none) = p1 at up1 hp1 ⊢
      have Mp1 := putM Mk1 up1
      have smp1 := putS smk1 up1
      have shp1 := putH shk1 up1
      have Rp1 := putR Rk1 up1
      refine after_call (rcount_o 2147483647 Rp1) ?_
      rintro r2 k2 ⟨rfl, Rk2, uk2⟩
      have Mk2 := keepM Mp1 uk2
      have smk2 := keepS smp1 uk2
      have shk2 := keepH shp1 uk2
      have hk2 := uk2.at hp1 hgrb
      generalize (cntO 2147483647 o1) = co at Rk2 hrd ⊢
      obtain ⟨n2, o2⟩ := co
      simp only at Rk2 hrd ⊢
      have e2 : storeA Try.prog 3 (.pointer (some ⟨g.length, 1, none⟩)) (.int .i64 (n2 : Nat)) k2 = some (k2.set g.length (.cells [.int .u8 (n1 : Nat), .int .i64 (n2 : Nat), .int .i64 0, .int .i64 0, .int .i64 0, .bool false] false none)) := stc (t := 3) (j := 1) hk2 (by simp) rfl rfl (by simp)
      have up2 : Upd (· = g.length) k2 (k2.set g.length (.cells [.int .u8 (n1 : Nat), .int .i64 (n2 : Nat), .int .i64 0, .int .i64 0, .int .i64 0, .bool false] false none)) := Upd.set (S := (· = g.length)) rfl _
      have hp2 : (k2.set g.length (.cells [.int .u8 (n1 : Nat), .int .i64 (n2 : Nat), .int .i64 0, .int .i64 0, .int .i64 0, .bool false] false none))[g.length]? = some (.cells [.int .u8 (n1 : Nat), .int .i64 (n2 : Nat), .int .i64 0, .int .i64 0, .int .i64 0, .bool false] false none) := by have := hp_lt hk2; simp [this]
      simp [f7, e2, -load_ptr, -store_ptr]
      generalize k2.set g.length (.cells [.int .u8 (n1 : Nat), .int .i64 (n2 : Nat), .int .i64 0, .int .i64 0, .int .i64 0, .bool false] false none) = p2 at up2 hp2 ⊢
      have Mp2 := putM Mk2 up2
      have smp2 := putS smk2 up2
      have shp2 := putH shk2 up2
      have Rp2 := putR Rk2 up2
      refine after_call (rcount_o 2147483647 Rp2) ?_
      rintro r3 k3 ⟨rfl, Rk3, uk3⟩
      have Mk3 := keepM Mp2 uk3
      have smk3 := keepS smp2 uk3
      have shk3 := keepH shp2 uk3
      have hk3 := uk3.at hp2 hgrb
      generalize (cntO 2147483647 o2) = co at Rk3 hrd ⊢
      obtain ⟨n3, o3⟩ := co
      simp only at Rk3 hrd ⊢
      have e3 : storeA Try.prog 3 (.pointer (some ⟨g.length, 2, none⟩)) (.int .i64 (n3 : Nat)) k3 = some (k3.set g.length (.cells [.int .u8 (n1 : Nat), .int .i64 (n2 : Nat), .int .i64 (n3 : Nat), .int .i64 0, .int .i64 0, .bool false] false none)) := stc (t := 3) (j := 2) hk3 (by simp) rfl rfl (by simp)
      have up3 : Upd (· = g.length) k3 (k3.set g.length (.cells [.int .u8 (n1 : Nat), .int .i64 (n2 : Nat), .int .i64 (n3 : Nat), .int .i64 0, .int .i64 0, .bool false] false none)) := Upd.set (S := (· = g.length)) rfl _
      have hp3 : (k3.set g.length (.cells [.int .u8 (n1 : Nat), .int .i64 (n2 : Nat), .int .i64 (n3 : Nat), .int .i64 0, .int .i64 0, .bool false] false none))[g.length]? = some (.cells [.int .u8 (n1 : Nat), .int .i64 (n2 : Nat), .int .i64 (n3 : Nat), .int .i64 0, .int .i64 0, .bool false] false none) := by have := hp_lt hk3; simp [this]
      simp [f7, e3, -load_ptr, -store_ptr]
      generalize k3.set g.length (.cells [.int .u8 (n1 : Nat), .int .i64 (n2 : Nat), .int .i64 (n3 : Nat), .int .i64 0, .int .i64 0, .bool false] false none) = p3 at up3 hp3 ⊢
      have Mp3 := putM Mk3 up3
      have smp3 := putS smk3 up3
      have shp3 := putH shk3 up3
      have Rp3 := putR Rk3 up3
      refine after_call (rcount_o 2147483647 Rp3) ?_
      rintro r4 k4 ⟨rfl, Rk4, uk4⟩
      have Mk4 := keepM Mp3 uk4
      have smk4 := keepS smp3 uk4
      have shk4 := keepH shp3 uk4
      have hk4 := uk4.at hp3 hgrb
      generalize (cntO 2147483647 o3) = co at Rk4 hrd ⊢
      obtain ⟨n4, o4⟩ := co
      simp only at Rk4 hrd ⊢
      have e4 : storeA Try.prog 3 (.pointer (some ⟨g.length, 3, none⟩)) (.int .i64 (n4 : Nat)) k4 = some (k4.set g.length (.cells [.int .u8 (n1 : Nat), .int .i64 (n2 : Nat), .int .i64 (n3 : Nat), .int .i64 (n4 : Nat), .int .i64 0, .bool false] false none)) := stc (t := 3) (j := 3) hk4 (by simp) rfl rfl (by simp)
      have up4 : Upd (· = g.length) k4 (k4.set g.length (.cells [.int .u8 (n1 : Nat), .int .i64 (n2 : Nat), .int .i64 (n3 : Nat), .int .i64 (n4 : Nat), .int .i64 0, .bool false] false none)) := Upd.set (S := (· = g.length)) rfl _
      have hp4 : (k4.set g.length (.cells [.int .u8 (n1 : Nat), .int .i64 (n2 : Nat), .int .i64 (n3 : Nat), .int .i64 (n4 : Nat), .int .i64 0, .bool false] false none))[g.length]? = some (.cells [.int .u8 (n1 : Nat), .int .i64 (n2 : Nat), .int .i64 (n3 : Nat), .int .i64 (n4 : Nat), .int .i64 0, .bool false] false none) := by have := hp_lt hk4; simp [this]
      simp [f7, e4, -load_ptr, -store_ptr]
      generalize k4.set g.length (.cells [.int .u8 (n1 : Nat), .int .i64 (n2 : Nat), .int .i64 (n3 : Nat), .int .i64 (n4 : Nat), .int .i64 0, .bool false] false none) = p4 at up4 hp4 ⊢
      have Mp4 := putM Mk4 up4
      have smp4 := putS smk4 up4
      have shp4 := putH shk4 up4
      have Rp4 := putR Rk4 up4
      refine after_call (rcount_o 999 Rp4) ?_
      rintro r5 k5 ⟨rfl, Rk5, uk5⟩
      have Mk5 := keepM Mp4 uk5
      have smk5 := keepS smp4 uk5
      have shk5 := keepH shp4 uk5
      have hk5 := uk5.at hp4 hgrb
      generalize (cntO 999 o4) = co at Rk5 hrd ⊢
      obtain ⟨n5, o5⟩ := co
      simp only at Rk5 hrd ⊢
      have e5 : storeA Try.prog 3 (.pointer (some ⟨g.length, 4, none⟩)) (.int .i64 (n5 : Nat)) k5 = some (k5.set g.length (.cells [.int .u8 (n1 : Nat), .int .i64 (n2 : Nat), .int .i64 (n3 : Nat), .int .i64 (n4 : Nat), .int .i64 (n5 : Nat), .bool false] false none)) := stc (t := 3) (j := 4) hk5 (by simp) rfl rfl (by simp)
      have up5 : Upd (· = g.length) k5 (k5.set g.length (.cells [.int .u8 (n1 : Nat), .int .i64 (n2 : Nat), .int .i64 (n3 : Nat), .int .i64 (n4 : Nat), .int .i64 (n5 : Nat), .bool false] false none)) := Upd.set (S := (· = g.length)) rfl _
      have hp5 : (k5.set g.length (.cells [.int .u8 (n1 : Nat), .int .i64 (n2 : Nat), .int .i64 (n3 : Nat), .int .i64 (n4 : Nat), .int .i64 (n5 : Nat), .bool false] false none))[g.length]? = some (.cells [.int .u8 (n1 : Nat), .int .i64 (n2 : Nat), .int .i64 (n3 : Nat), .int .i64 (n4 : Nat), .int .i64 (n5 : Nat), .bool false] false none) := by have := hp_lt hk5; simp [this]
      simp [f7, e5, -load_ptr, -store_ptr]
      generalize k5.set g.length (.cells [.int .u8 (n1 : Nat), .int .i64 (n2 : Nat), .int .i64 (n3 : Nat), .int .i64 (n4 : Nat), .int .i64 (n5 : Nat), .bool false] false none) = p5 at up5 hp5 ⊢
      have Mp5 := putM Mk5 up5
      have smp5 := putS smk5 up5
      have shp5 := putH shk5 up5
      have Rp5 := putR Rk5 up5
      refine after_call (rflag_o Rp5) ?_
      rintro r6 k6 ⟨rfl, Rk6, uk6⟩
      have Mk6 := keepM Mp5 uk6
      have smk6 := keepS smp5 uk6
      have shk6 := keepH shp5 uk6
      have hk6 := uk6.at hp5 hgrb
      rw [flagO_eq] at Rk6 ⊢
      generalize (cntO 1 o5) = co at Rk6 hrd ⊢
      obtain ⟨n6, o6⟩ := co
      simp only at Rk6 hrd ⊢
      generalize hfl : (n6 == 1) = fl at hrd ⊢
      have e6 : storeA Try.prog 4 (.pointer (some ⟨g.length, 5, none⟩)) (.bool fl) k6 = some (k6.set g.length (.cells [.int .u8 (n1 : Nat), .int .i64 (n2 : Nat), .int .i64 (n3 : Nat), .int .i64 (n4 : Nat), .int .i64 (n5 : Nat), .bool fl] false none)) := stc (t := 4) (j := 5) hk6 (by simp) rfl rfl (by simp)
      have up6 : Upd (· = g.length) k6 (k6.set g.length (.cells [.int .u8 (n1 : Nat), .int .i64 (n2 : Nat), .int .i64 (n3 : Nat), .int .i64 (n4 : Nat), .int .i64 (n5 : Nat), .bool fl] false none)) := Upd.set (S := (· = g.length)) rfl _
      have hp6 : (k6.set g.length (.cells [.int .u8 (n1 : Nat), .int .i64 (n2 : Nat), .int .i64 (n3 : Nat), .int .i64 (n4 : Nat), .int .i64 (n5 : Nat), .bool fl] false none))[g.length]? = some (.cells [.int .u8 (n1 : Nat), .int .i64 (n2 : Nat), .int .i64 (n3 : Nat), .int .i64 (n4 : Nat), .int .i64 (n5 : Nat), .bool fl] false none) := by have := hp_lt hk6; simp [this]
      simp [f7, e6, -load_ptr, -store_ptr]
      generalize k6.set g.length (.cells [.int .u8 (n1 : Nat), .int .i64 (n2 : Nat), .int .i64 (n3 : Nat), .int .i64 (n4 : Nat), .int .i64 (n5 : Nat), .bool fl] false none) = p6 at up6 hp6 ⊢
      have Mp6 := putM Mk6 up6
      have smp6 := putS smk6 up6
      have shp6 := putH shk6 up6
      have Rp6 := putR Rk6 up6
      have l06 := Mp6.l0
      have lq6 : ∀ g', Same p6 g' → loadA Try.prog 124 (.pointer (some ⟨g.length, 0, none⟩)) g' = some (.agg #[.int .u8 (n1 : Nat), .int .i64 (n2 : Nat), .int .i64 (n3 : Nat), .int .i64 (n4 : Nat), .int .i64 (n5 : Nat), .bool fl]) := fun g' s => by simp [s.at hp6]
      have sB : Same p6 (p6 ++ [.cells [.int .u8 (n1 : Nat), .int .i64 (n2 : Nat), .int .i64 (n3 : Nat), .int .i64 (n4 : Nat), .int .i64 (n5 : Nat), .bool fl] false none]) := Same.new _
      have l0B := (Mp6.same sB).l0
      have hmp6 : mb ≤ p6.length ∧ g.length < p6.length := by
        have := hp_lt hp6
        omega
      have hsB : srcA 6 (.slice (some ⟨p6.length, 0, none⟩) 1 1) (p6 ++ [Blk.cells [.int .u8 (n1 : Nat), .int .i64 (n2 : Nat), .int .i64 (n3 : Nat), .int .i64 (n4 : Nat), .int .i64 (n5 : Nat), .bool fl] false none]) = some (1, [.int .u8 (n1 : Nat), .int .i64 (n2 : Nat), .int .i64 (n3 : Nat), .int .i64 (n4 : Nat), .int .i64 (n5 : Nat), .bool fl]) := by simp [srcA]
      have AB := (Mp6.same sB).rw
      have h24' := h24
      obtain ⟨rv', g8, e8, A8, u8, n8⟩ := AB.append (P := Try.prog) (by_ := 48) (t := 119) (tx := 119) (e := 124) (x := .slice (some ⟨p6.length, 0, none⟩) 1 1) (m := 1) (ys := [.int .u8 (n1 : Nat), .int .i64 (n2 : Nat), .int .i64 (n3 : Nat), .int .i64 (n4 : Nat), .int .i64 (n5 : Nat), .bool fl]) (by simp; omega) (by simp) (by simp) (by simp; rfl) (by simp [isSrc]) hsB (by simp) rfl (by omega) (by omega)
      have hc8' : g8[c]? = some (.cells [v, rv] false none) := u8.at ((Mp6.same sB).at_) fun hin => Mp6.ne c hin rfl
      have hcl8 := hp_lt hc8'
      have hc8 := (Row.one A8.row).1
      have ho8 := (Row.one A8.row).2
      have q8 : storeA Try.prog 119 (.pointer (some ⟨c, 1, none⟩)) rv' g8 = some (g8.set c (.cells [v, rv'] false none)) := by simp [storeA, hc8', hc8, ho8, spl]
      have u9 : Upd (· = c) g8 (g8.set c (.cells [v, rv'] false none)) := Upd.set (S := (· = c)) rfl _
      have hc9 : (g8.set c (.cells [v, rv'] false none))[c]? = some (.cells [v, rv'] false none) := by simp [hcl8]
      have lqB := lq6 _ sB
      have lq60 := lq6 _ Same.refl
      refine WpA.drawnA [0, 1, 2, 3, 4, 5, 6, 7, 8, 9, 10] [[], [], [], [], [], [], [], [1, 2, 3, 4, 5, 6], [], [], [0, 1, 2, 3, 4, 5, 6, 7, 8, 9]] (by kernel_rfl) (by decide +kernel) (by decide +kernel) ?_
      simp [f1, f2, f6, f7, f8, l06, lq60, l0B, lqB, e8, q8, wi, zeros, capO, cellsOf, spl, -load_ptr, -store_ptr, -roundQ_normal, ↓rq]
      generalize g8.set c (.cells [v, rv'] false none) = g9 at hc9 u9 ⊢
      have hlB : (p6 ++ [Blk.cells [.int .u8 (n1 : Nat), .int .i64 (n2 : Nat), .int .i64 (n3 : Nat), .int .i64 (n4 : Nat), .int .i64 (n5 : Nat), .bool fl] false none]).length = p6.length + 1 := by simp
      rw [hlB] at n8
      have hg8 := u8.len
      rw [hlB] at hg8
      have hg9 := u9.len
      have sm8 : Same h g8 := Upd.trans (smp6.trans sB) u8 fun j hj hin => by have := hrv j hin; omega
      have sm9 : Same h g9 := Upd.trans sm8 u9 fun j hj e => by omega
      have sh8 : Same h1 g8 := Upd.trans (shp6.trans sB) u8 fun j hj hin => by have := hrv j hin; omega
      have sh9 : Same h1 g9 := Upd.trans sh8 u9 fun j hj e => by omega
      have hrv' : ∀ j, inRow rv' j → mb ≤ j ∧ j ≠ c := fun j hj => by
        rcases n8 j hj with h1 | h1
        · have := hrv j h1
          exact ⟨this, by omega⟩
        · exact ⟨by omega, by omega⟩
      have R9 : RRO g9 h3.length mb rb o6 := ((Rp6.same sB).upd u8 fun j _ hj hin => by have := hrv j hin; omega).upd u9 fun j hj _ e => by omega
      refine stop_intro ⟨js.length - (i + 1), by omega, i + 1, o6, rv', L ++ [⟨n1, n2, n3, n4, n5, fl⟩], rfl, by omega, by simp [f1], by simp [f2], by simp [f6], by simp [f7], by simp, sm9, sh9, by omega, ⟨hc9, Nat.le_refl _, ?_, fun j hj => (hrv' j hj).2⟩, R9, fun j hj => (hrv' j hj).1, by simp [hLi], ?_⟩
      · have := A8.upd u9 fun j hj => (hrv' j hj).2
        rw [List.length_append, List.flatMap_append, List.flatMap_singleton]
        exact this
      · rw [hrd, List.append_assoc]; rfl
    · have d' : ¬ (i : Int) < ps.length := by omega
      have hij : i = js.length := by omega
      subst hij
      rw [Nat.sub_self] at hrd
      simp only [readJ, List.append_nil] at hrd
      simp [f1, f2, f6, f7, f8, ljg, tp, d', -load_ptr]
      refine after_call (rdone_o R) ?_
      rintro r g ⟨rfl, rfl⟩
      by_cases ho : o = some []
      · rw [decide_eq_true ho]
        subst ho
        have hval := readJ_ok 255 2147483647 (by omega) js.length (some bs)
        rw [hrd] at hval
        simp [f1, f2, f6, f7, f8]
        refine WpA.loop (fun z fr g' => ∃ (k : Nat), z = js.length - k ∧ k ≤ js.length ∧ fr 1 = w ∧ fr 2 = .pointer (some ⟨h.length, 0, none⟩) ∧ fr 6 = .pointer (some ⟨c, 0, none⟩) ∧ fr 10 = .int .i64 (k : Nat) ∧ Same g g' ∧ ∀ q, q < k → couldP (js.getD q Jb.no) L (L.getD q St.no) = true)
          (k := js.length) ⟨0, by simp, by omega, by simp [f1], by simp [f2], by simp [f6], by simp, Same.refl, fun q hq => by omega⟩ ?_
        clear f1 f2 f6 f7 f8
        rintro z fr g2 ⟨k, rfl, hk, f1, f2, f6, f10, s2', hall⟩
        apply Run.ok
        have M2 := M.same s2'
        have P2 := PT.same s2'
        have lj2 := lj _ (sh.trans s2')
        have tp2 := P2.row.len (P := Try.prog) (t := 48) (e := 67) (by simp)
        by_cases e : k < js.length
        · have e' : (k : Int) < ps.length := by omega
          have wk : IntKind.i64.wrap ((k : Int) + 1) = (k : Int) + 1 := wrap_i64 (by omega) (by omega)
          have hkL : k < L.length := by omega
          have hvk : ValOk (L.getD k St.no) := by rw [← getD_at L St.no hkL]; exact hval _ (List.getElem_mem hkL)
          simp [f1, f2, f6, f10, lj2, tp2, e', -load_ptr]
          refine after_call (rcould_ev M2 P2 hm cv (by omega) k (by omega) hvk.2.2.2.2.1) ?_
          rintro r g3 ⟨rfl, s3'⟩
          rcases Bool.eq_false_or_eq_true (couldP (js.getD k Jb.no) L (L.getD k St.no)) with hc2 | hc2
          · rw [hc2]
            simp [f1, f2, f6, f10, wk, -roundQ_normal, ↓rq]
            refine stop_intro ⟨js.length - (k + 1), by omega, k + 1, rfl, by omega, by simp [f1], by simp [f2], by simp [f6], by simp, s2'.trans s3', fun q hq => ?_⟩
            rcases Nat.lt_or_ge q k with h1 | h1
            · exact hall q h1
            · rw [show q = k by omega]; exact hc2
          · rw [hc2]
            simp
            refine ⟨(sm.trans s2').trans s3', fun L' hL' => ?_⟩
            have hi2 := hL'
            unfold IsJs at hi2
            rw [hrd] at hi2
            simp only [Prod.mk.injEq, true_and] at hi2
            have := hi2.2 k e
            rw [← hi2.1, hc2] at this
            cases this
        · have e' : ¬ (k : Int) < ps.length := by omega
          have hIs : IsJs js bs L := ⟨hrd, fun q hq => hall q (by omega)⟩
          have hby := hIs.bytes
          have hw2 := (hw.same sm).same s2'
          have cw := fun g' (s : Same g2 g') => Bytes.str (P := Try.prog) (t := 22) (u := 9) (e := 5) (hw2.same s) (by simp) (by simp) (by simp)
          have cw2 := cw _ Same.refl
          simp [f1, f2, f6, f10, lj2, tp2, e', -load_ptr]
          refine WpA.drawnA [0, 3, 4, 1, 2, 5] [[], [0]] (by kernel_rfl) (by decide +kernel) (by decide +kernel) ?_
          simp [f1, f6, cw2]
          refine after_call (rjbytes_ev M2 (by omega) hval) ?_
          rintro r g3 ⟨B3, s3'⟩
          have c3 := Bytes.str (P := Try.prog) (t := 22) (u := 9) (e := 5) B3.row (by simp) (by simp) (by simp)
          have cw3 := cw _ s3'
          rw [hby] at c3
          simp [f1, f6, cw3, c3]
          have M3 := M2.same s3'
          exact ⟨(sm.trans s2').trans s3', c, rv, L, hIs, rfl, ⟨M3.at_, by omega, Acc.down (by omega) M3.rw, M3.ne⟩⟩
      · rw [decide_eq_false ho]
        simp
        refine ⟨sm, fun L' hL' => ?_⟩
        have hi2 := hL'
        unfold IsJs at hi2
        rw [hrd] at hi2
        simp only [Prod.mk.injEq] at hi2
        exact ho hi2.1.1
end Go.Proofs.Ytklhioaokogpdaa
