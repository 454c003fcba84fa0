/- bastionref01: what its reading side answers; no condition. -/
import Derived.Test.YtaahkamnpobofaaRefA
import Derived.Test.YtaahkamnpobofaaRdrO
import Derived.Test.YtaahkamnpobofaaAb32
namespace Go.Proofs.Ytaahkamnpobofaa
open Go.Ab

/-- the document's reader: what is left, and whether it has failed -/
def RRdr (h : Hp) (b : Nat) (v : Value) (l : List UInt8) (fl : Bool) : Prop := h[b]? = some (.cells [v, .bool fl] false none) ∧ SlB h v l
theorem RRdr.same {h h' : Hp} {b : Nat} {v : Value} {l : List UInt8} {fl : Bool} (hr : RRdr h b v l fl) (u : Same h h') : RRdr h' b v l fl := ⟨u.at hr.1, hr.2.same u⟩
/-- the digits of the first n bytes from the place i on -/
theorem val_take (l : List UInt8) (i n : Nat) (hi : i < n) (hn : n ≤ l.length) : val ((l.take n).drop i) = (l.getD i 0).toNat % 128 + 128 * val ((l.take n).drop (i + 1)) := by
  have h1 : i < (l.take n).length := by simp; omega
  rw [List.drop_eq_getElem_cons h1]
  simp only [val, List.getElem_take, List.getD_eq_getElem?_getD, List.getElem?_eq_getElem (show i < l.length by omega), Option.getD_some]
set_option maxRecDepth 10000 in
theorem off_ev (b : Nat) (v : Value) (l : List UInt8) (fl : Bool) (h : Hp) (hr : RRdr h b v l fl) (hl : l.length < 1099511627776) :
    EvA Try.prog 119 [.pointer (some ⟨b, 0, none⟩)] (fun r h' => r = .tuple #[.int .u64 ((num l).1 : Nat), .int .i64 ((num l).2 : Nat)] ∧ Same h h') h := by
  refine EvA.body Try.func119 rfl (by kernel_rfl) (by simp) ?_
  apply Run.ok
  simp
  refine WpA.loop (fun k fr h' => ∃ (n : Nat), k = 11 - n ∧ 1 ≤ n ∧ n ≤ 11 ∧ n ≤ l.length + 1 ∧ fr 0 = .pointer (some ⟨b, 0, none⟩) ∧ fr 5 = .int .i64 (n : Nat) ∧ Same h h' ∧ ∀ u, IsNum l u → n ≤ grps u)
    (k := 10) ⟨1, rfl, by omega, by omega, by omega, by simp, by simp, Same.refl, fun u _ => grps_pos u⟩ ?_
  rintro k fr h2 ⟨n, rfl, hn1, hn2, hn3, f0, f5, sm, hno⟩
  have hr2 := hr.same sm
  have hB := hr2.1
  have hlen := Bytes.len (P := Try.prog) (t := 42) (e := 5) hr2.2.bytes (by simp)
  have f0' := f0
  have f5' := f5
  apply Run.ok
  by_cases c : n ≤ 10 ∧ n ≤ l.length
  · have c1 : (n : Int) ≤ 10 := by omega
    have c2 : (n : Int) ≤ l.length := by omega
    simp [f0, f5, hB, hlen, c1, c2]
    clear f5 f0
    refine WpA.loop (fun k fr h' => k ≤ n ∧ fr 0 = .pointer (some ⟨b, 0, none⟩) ∧ fr 5 = .int .i64 (n : Nat) ∧ fr 6 = .int .i64 (k : Nat) ∧ fr 4 = .int .u64 ((val ((l.take n).drop k) % 18446744073709551616 : Nat) : Int) ∧ h' = h2)
      (k := n) ⟨Nat.le_refl _, by simp [f0'], by simp [f5'], by simp [f5'], by simp [val], rfl⟩ ?_
    rintro i fr h3 ⟨hi, f0, f5, f6, f4, rfl⟩
    apply Run.ok
    simp [f6]
    refine branch_cases (fun d => ?_) (fun d => ?_)
    · have hi1 : 1 ≤ i := by simp at d; omega
      have hidx : ((i : Int) - 1) = ((i - 1 : Nat) : Int) := by omega
      have w0 := wrap_i64 (a := (i : Int) - 1) (by omega) (by omega)
      obtain ⟨p, o, e1, e2⟩ := Bytes.load (P := Try.prog) (t := 42) (e := 5) (k := .i64) (i := (i : Int) - 1) hr2.2.bytes (by simp) (by simp) (by simp) (by omega) (by omega)
      have hv := val_take l (i - 1) n (by omega) c.2
      rw [show i - 1 + 1 = i by omega] at hv
      rw [show ((i : Int) - 1).toNat = i - 1 by omega] at e2
      have q1 : (((l.getD (i - 1) 0).toNat : Nat) : Int).tmod 128 = ((l.getD (i - 1) 0).toNat : Int) % 128 := Int.tmod_eq_emod_of_nonneg (by omega)
      generalize hx : l.getD (i - 1) 0 = x at e2 hv q1
      generalize hV : val ((l.take n).drop i) = V at hv f4
      generalize hW : val ((l.take n).drop (i - 1)) = W at hv
      have hld : loadA Try.prog 42 (.pointer (some ⟨b, 0, none⟩)) h3 = some v := by simp [hB]
      simp [f0, f5, f6, f4, hld, w0, e1, e2, -load_ptr, q1, wrap_u64_mod]
      refine ⟨i - 1, by omega, by omega, by omega, ?_⟩
      rw [hW]; omega
    · have hi0 : i = 0 := by simp at d; omega
      subst hi0
      rw [List.drop_zero] at f4
      generalize hU : val (l.take n) % 18446744073709551616 = U at f4
      have hU64 : U < 18446744073709551616 := by omega
      have hld : loadA Try.prog 42 (.pointer (some ⟨b, 0, none⟩)) h3 = some v := by simp [hB]
      simp
      obtain ⟨v', s1, s2, s3⟩ := SlB.hi (P := Try.prog) (t := 42) (e := 5) (k := .i64) (m := n) hr2.2 (by simp) (by simp) c.2
      have hst := fun g (hg : Same h3 g) => Bytes.str (P := Try.prog) (t := 42) (u := 9) (e := 5) (s2.same hg).bytes (by simp) (by simp) (by simp)
      refine WpA.drawn [0, 2, 3, 4, 5, 6, 7, 8, 1, 9] (by kernel_rfl) (by decide +kernel) ?_
      simp [f0, f4, f5, hld, -load_ptr, s1 h3 Same.refl, hst h3 Same.refl]
      refine after_call (rgroups_ev U h3 hU64) ?_
      rintro r h4 ⟨rfl, sm4⟩
      have hld4 : loadA Try.prog 42 (.pointer (some ⟨b, 0, none⟩)) h4 = some v := by simp [sm4.at hB]
      simp [f0, f4, f5, hld4, -load_ptr, s1 h4 sm4, hst h4 sm4]
      have hel : (enc U).length ≤ 10 := by rw [enc_length]; exact grps_le _ hU64
      by_cases he : enc U = l.take n
      · have hnum := num_some (s := l) (u := U) ⟨hU64, by rw [he]; exact List.take_prefix _ _⟩
        have hgn : grps U = n := by rw [← enc_length, he, List.length_take]; omega
        simp [he, f4, f5, hnum, hgn]
        exact sm.trans sm4
      · have w1 : IntKind.i64.wrap ((n : Int) + 1) = (n : Int) + 1 := wrap_i64 (by omega) (by omega)
        simp [he, f0, f4, f5, w1, -roundQ_normal, ↓rq]
        refine stop_intro ⟨11 - (n + 1), by omega, n + 1, rfl, by omega, by omega, by omega, by simp [f0], by simp, sm.trans sm4, fun u hu => ?_⟩
        have h1 := hno u hu
        rcases Nat.lt_or_ge n (grps u) with h2 | h2
        · exact h2
        · exfalso
          have h3 : enc u = l.take n := by
            have h4 := List.prefix_iff_eq_take.1 hu.2
            rw [enc_length, show grps u = n by omega] at h4; exact h4
          have h5 : U = u := by rw [← hU, ← h3, val_enc]; exact Nat.mod_eq_of_lt hu.1
          exact he (by rw [h5, h3])
  · have hnone : num l = (0, 0) := num_none fun u hu => by
      have h1 := hno u hu
      have h2 := hu.2.length_le
      rw [enc_length] at h2
      have h3 := grps_le u hu.1
      omega
    by_cases c1 : n ≤ 10
    · have c2 : ¬ (n : Int) ≤ l.length := by omega
      have c1' : (n : Int) ≤ 10 := by omega
      have c2' : ¬ n ≤ l.length := by omega
      simp [f0, f5, hB, hlen, c1, c1', c2, c2', hnone]
      exact sm
    · have c1' : ¬ (n : Int) ≤ 10 := by omega
      simp [f0, f5, c1, c1', hnone]
      exact sm
theorem num_nil : num [] = (0, 0) := num_none fun u hu => by
  have h1 : (enc u).length ≤ 0 := hu.2.length_le
  have h2 := Grp.length (enc_grp u)
  omega
theorem wth_nil (most : Int) : wth [] most = (0, 0) := by simp [wth, num_nil]
/-- the document's reader, by what is left; none: it has failed; it lies between the blocks k and m -/
def RRO (h : Hp) (k m b : Nat) (o : Option (List UInt8)) : Prop :=
  k ≤ b ∧ b < m ∧ ∃ v, RRdr h b v (o.getD []) o.isNone ∧ (∀ j, inRow v j → j ≠ b ∧ k ≤ j ∧ j < m) ∧ (o.getD []).length < 1099511627000
theorem RRO.upd {h h' : Hp} {k m b : Nat} {o : Option (List UInt8)} {S : Nat → Prop} (r : RRO h k m b o) (u : Upd S h h') (hs : ∀ j, k ≤ j → j < m → ¬ S j) : RRO h' k m b o := by
  obtain ⟨h1, h2, v, h3, h4, h5⟩ := r
  exact ⟨h1, h2, v, ⟨u.at h3.1 (hs b h1 h2), h3.2.upd u fun j hj => hs j (h4 j hj).2.1 (h4 j hj).2.2⟩, h4, h5⟩
theorem RRO.same {h h' : Hp} {k m b : Nat} {o : Option (List UInt8)} (r : RRO h k m b o) (u : Same h h') : RRO h' k m b o := r.upd u fun _ _ _ h => h
theorem rcount_ev (b : Nat) (v : Value) (l : List UInt8) (fl : Bool) (most : Int) (h : Hp) (hr : RRdr h b v l fl) (hl : l.length < 1099511627000) :
    EvA Try.prog 97 [.pointer (some ⟨b, 0, none⟩), .int .i64 most] (fun r h' => r = .tuple #[.int .i64 ((wth l most).1 : Nat), .int .i64 ((wth l most).2 : Nat)] ∧ Same h h') h := by
  have hlt := num_lt l
  refine EvA.body Try.func97 rfl (by kernel_rfl) (by simp) ?_
  apply Run.ok
  simp
  refine after_call (off_ev b v l fl h hr (by omega)) ?_
  rintro r h2 ⟨rfl, sm⟩
  simp
  rcases num_cases l with ⟨u, hu, hn⟩ | ⟨_, hn⟩
  · have hg := grps_pos u
    have c0 : ((grps u : Int) == 0) = false := by simp; omega
    rw [hn] at hlt
    by_cases c1 : 2147483647 < u
    · have c1' : (2147483647 : Int) < (u : Nat) := by omega
      simp [hn, c0, c1', c1, wth]
      exact sm
    · have c1' : ¬ (2147483647 : Int) < (u : Nat) := by omega
      have w := wrap_i64 (a := (u : Int)) (by omega) (by omega)
      by_cases c2 : most < (u : Int)
      · simp [hn, c0, c1', c1, c2, w, wth]
        exact sm
      · simp [hn, c0, c1', c1, c2, w, wth]
        exact sm
  · simp [hn, wth]
    exact sm
theorem fails_ev (b : Nat) (v : Value) (l : List UInt8) (fl : Bool) (h : Hp) (hr : RRdr h b v l fl) :
    EvA Try.prog 98 [.pointer (some ⟨b, 0, none⟩)] (fun r h' => h' = h.set b (.cells [.slice none 0 0, .bool true] false none)) h := by
  have hB := hr.1
  refine EvA.body Try.func98 rfl (by kernel_rfl) (by simp) ?_
  apply Run.ok
  have hlt := hp_lt hB
  have q1 : storeA Try.prog 4 (.pointer (some ⟨b, 1, none⟩)) (.bool true) h = some (h.set b (.cells [v, .bool true] false none)) := by simp [storeA, hB, cellsOf, spl]
  have hB2 : (h.set b (.cells [v, .bool true] false none))[b]? = some (.cells [v, .bool true] false none) := by simp [hlt]
  have q2 : storeA Try.prog 42 (.pointer (some ⟨b, 0, none⟩)) (.slice none 0 0) (h.set b (.cells [v, .bool true] false none)) = some (h.set b (.cells [.slice none 0 0, .bool true] false none)) := by simp [storeA, hB2, cellsOf, spl]
  simp [q1, q2, -store_ptr]
theorem rcount_o {h : Hp} {k m b : Nat} {o : Option (List UInt8)} (most : Int) (hr : RRO h k m b o) :
    EvA Try.prog 68 [.pointer (some ⟨b, 0, none⟩), .int .i64 most] (fun r h' => r = .int .i64 ((cntO most o).1 : Nat) ∧ RRO h' k m b (cntO most o).2 ∧ Upd (· = b) h h') h := by
  obtain ⟨hkb, hbm, v, hr, hv, hl⟩ := hr
  refine EvA.body Try.func68 rfl (by kernel_rfl) (by simp) ?_
  apply Run.ok
  simp
  refine after_call (rcount_ev b v _ _ most h hr hl) ?_
  rintro r h2 ⟨rfl, sm⟩
  have hr2 := hr.same sm
  have hB := hr2.1
  have hlt := hp_lt hB
  have hle := wth_le (o.getD []) most
  have hrt : ∀ g, RRdr g b v (o.getD []) o.isNone → loadA Try.prog 42 (.pointer (some ⟨b, 0, none⟩)) g = some v := fun g hg => by simp [hg.1]
  have hl2 := hrt _ hr2
  by_cases c : (wth (o.getD []) most).2 = 0
  · have c' : (((wth (o.getD []) most).2 : Int) == 0) = true := by simp; omega
    have hc : cntO most o = (0, none) := by
      cases o with
      | none => rfl
      | some l => simp only [Option.getD_some] at c; simp only [cntO, if_pos c]
    rw [hc]
    simp [c']
    refine after_call (fails_ev b v _ _ h2 hr2) ?_
    rintro r h3 rfl
    simp
    refine ⟨⟨hkb, hbm, .slice none 0 0, ⟨by simp [hlt], (BAcc.nil 0).sl⟩, fun j hj => (by obtain ⟨a, n, c, he, _⟩ := hj; cases he), by simp⟩, Upd.trans (sm.mono fun _ _ h => h.elim) (Upd.set (S := (· = b)) rfl _) (fun _ _ h => h)⟩
  · have c' : (((wth (o.getD []) most).2 : Int) == 0) = false := by simp; omega
    cases o with
    | none => exact absurd (by rw [Option.getD_none, wth_nil]) c
    | some l =>
      simp only [Option.getD_some, Option.isNone_some] at *
      have hc : cntO most (some l) = ((wth l most).1, some (l.drop (wth l most).2)) := by simp only [cntO, if_neg c]
      obtain ⟨v', s1, s2, s3⟩ := SlB.lo (P := Try.prog) (t := 42) (e := 5) (k := .i64) (m := (wth l most).2) hr2.2 (by simp) (by simp) hle
      have s1' := s1 _ Same.refl
      rw [hc]
      have hcv := (Row.one s2.bytes).1
      have hov := (Row.one s2.bytes).2
      have q : storeA Try.prog 42 (.pointer (some ⟨b, 0, none⟩)) v' h2 = some (h2.set b (.cells [v', .bool false] false none)) := by simp [storeA, hB, hcv, hov, spl]
      simp [c', hl2, s1', q, -load_ptr, -store_ptr]
      have uS : Upd (· = b) h2 (h2.set b (.cells [v', .bool false] false none)) := Upd.set (S := (· = b)) rfl _
      refine ⟨⟨hkb, hbm, v', ⟨by simp [hlt], s2.upd uS fun j hj => (hv j (s3 j hj)).1⟩, fun j hj => hv j (s3 j hj), by simp; omega⟩, Upd.trans (sm.mono fun _ _ h => h.elim) uS (fun _ _ h => h)⟩
theorem rnewReader_o {h : Hp} {v : Value} {l : List UInt8} (hb : Bytes h v l) (hl : l.length < 1099511627000) :
    EvA Try.prog 67 [v] (fun r h' => ∃ b, r = .pointer (some ⟨b, 0, none⟩) ∧ RRO h' h.length h'.length b (some l) ∧ Same h h') h := by
  refine EvA.body Try.func67 rfl (by kernel_rfl) (by simp) ?_
  apply Run.ok
  simp
  refine after_call (behind_ev v l ⟨#[]⟩ h hb (by omega) (by decide)) ?_
  rintro r h1 ⟨A, s1⟩
  have A' : BAcc h.length h1 r l := by simpa using A
  have hcv := (Row.one A'.row).1
  have hov := (Row.one A'.row).2
  simp [hcv, spl]
  have s2 : Same h1 (h1 ++ [.cells [r, .bool false] false none]) := Same.new _
  refine ⟨⟨s1.len, by simp, r, ⟨by simp, A'.sl.same s2⟩, fun j hj => ?_, by simpa using hl⟩, s1.trans s2⟩
  have := Acc.above A' j hj
  simp; omega
theorem rdone_o {h : Hp} {k m b : Nat} {o : Option (List UInt8)} (hr : RRO h k m b o) :
    EvA Try.prog 72 [.pointer (some ⟨b, 0, none⟩)] (fun r h' => r = .bool (decide (o = some [])) ∧ h' = h) h := by
  obtain ⟨hkb, hbm, v, hr, hv, hl⟩ := hr
  have hB := hr.1
  have hlen := Bytes.len (P := Try.prog) (t := 42) (e := 5) hr.2.bytes (by simp)
  refine EvA.body Try.func72 rfl (by kernel_rfl) (by simp) ?_
  apply Run.ok
  cases o with
  | none => simp at hB; simp [hB]
  | some l =>
    simp at hB hlen
    have e : ((l.length : Int) == 0) = decide (l = []) := by
      rw [Bool.eq_iff_iff]; simp
    simp [hB, hlen, e]
end Go.Proofs.Ytaahkamnpobofaa
