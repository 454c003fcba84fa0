/- code's writing side: what its calls answer; no condition. -/
import Derived.Test.YtaahkamnpobofaaReader
namespace Go.Proofs.Ytaahkamnpobofaa
open Go.Ab

/-- bytes are put behind -/
theorem appB {h0 h : Hp} {v x : Value} {l m : List UInt8} (ha : BAcc h0.length h v l) (hs : Same h0 h) (hx : srcA 1 x h = some (m.length, m.map byteV)) (hb : l.length + m.length ≤ 109951162777600) :
    ∃ v' h', appendA Try.prog 42 42 v x h = some (v', h') ∧ BAcc h0.length h' v' (l ++ m) ∧ Same h0 h' :=
  BAcc.append (e := 5) (dx := .slice 5) ha hs (by simp) (by simp) (by simp) rfl hx hb
theorem appS {h0 h : Hp} {v x : Value} {l m : List UInt8} (ha : BAcc h0.length h v l) (hs : Same h0 h) (hx : srcA 1 x h = some (m.length, m.map byteV)) (hb : l.length + m.length ≤ 109951162777600) :
    ∃ v' h', appendA Try.prog 42 9 v x h = some (v', h') ∧ BAcc h0.length h' v' (l ++ m) ∧ Same h0 h' :=
  BAcc.append (e := 5) (dx := .string) ha hs (by simp) (by simp) (by simp) rfl hx hb
/-- one byte is put behind -/
theorem pushB {h0 h : Hp} {v : Value} {l : List UInt8} (b : UInt8) (X : Int) (hX : X = (b.toNat : Nat)) (ha : BAcc h0.length h v l) (hs : Same h0 h) (hb : l.length + 1 ≤ 109951162777600) :
    ∃ v' h', appendA Try.prog 42 42 v (.slice (some ⟨h.length, 0, none⟩) 1 1) (h ++ [.cells [.int .u8 X] false none]) = some (v', h') ∧ BAcc h0.length h' v' (l ++ [b]) ∧ Same h0 h' := by
  subst hX
  exact appB (ha.same (Same.new _)) (hs.trans (Same.new _)) (src_one b) (by simpa using hb)
theorem makeB (c : Nat) (h : Hp) (hc : c < 281474976710656) : makeSliceA Try.prog 42 (.int .i64 0) (.int .i64 (c : Int)) h = some (.slice (some ⟨h.length, 0, none⟩) 0 c, h ++ [.cells (zeros [.int .u8 0] c) false none]) := by
  rw [makeSlice_of (e := 5) (sz := 1) (by_ := 1) (zs := 1) (zero := [.int .u8 0]) (by simp) (by simp) (by simp), if_pos ⟨by omega, by omega, by omega, rfl, by omega⟩]
  simp
theorem makeB_acc (c : Nat) (h : Hp) (hc : c < 281474976710656) : BAcc h.length (h ++ [.cells (zeros [.int .u8 0] c) false none]) (.slice (some ⟨h.length, 0, none⟩) 0 c) [] :=
  Acc.lit (z := 1) (n := 0) (xs := []) (rest := zeros [.int .u8 0] c) (c := c) (op := none) (Nat.le_refl _) (by simp) (by simp) (by simp [zeros_length]) (by omega) (by simp [capO]; omega)
theorem enc_at : ∀ (i u : Nat), i + 1 < grps u → (enc u)[i]? = some (UInt8.ofNat (128 + u / 128 ^ i % 128)) := by
  intro i
  induction i with
  | zero =>
    intro u hi
    have hu : 128 ≤ u := by
      rcases Nat.lt_or_ge u 128 with h | h
      · rw [grps_small u h] at hi; omega
      · exact h
    rw [enc_big hu]; simp
  | succ i ih =>
    intro u hi
    have hu : 128 ≤ u := by
      rcases Nat.lt_or_ge u 128 with h | h
      · rw [grps_small u h] at hi; omega
      · exact h
    rw [enc_big hu, List.getElem?_cons_succ, ih (u / 128) (by rw [grps_div u hu] at hi; omega), Nat.div_div_eq_div_mul, Nat.pow_succ, Nat.mul_comm (128 ^ i) 128]
theorem enc_last : ∀ (i u : Nat), i + 1 = grps u → (enc u)[i]? = some (UInt8.ofNat (u / 128 ^ i)) ∧ u / 128 ^ i < 128 := by
  intro i
  induction i with
  | zero =>
    intro u hi
    have hu : u < 128 := by
      rcases Nat.lt_or_ge u 128 with h | h
      · exact h
      · have := grps_pos (u / 128); rw [grps_div u h] at hi; omega
    rw [enc_small hu]; simp [hu]
  | succ i ih =>
    intro u hi
    have hu : 128 ≤ u := by
      rcases Nat.lt_or_ge u 128 with h | h
      · rw [grps_small u h] at hi; omega
      · exact h
    have := ih (u / 128) (by rw [grps_div u hu] at hi; omega)
    rw [enc_big hu, List.getElem?_cons_succ]
    rw [Nat.div_div_eq_div_mul, Nat.mul_comm 128 (128 ^ i), ← Nat.pow_succ] at this
    exact this
theorem or128 : ∀ b : Fin 256, ((BitVec.ofInt 8 (b.val : Int)) ||| (BitVec.ofInt 8 (128 : Int))).toNat = 128 + b.val % 128 := by decide +kernel
theorem bin_or128 {t : TypeId} {x y : Operand} (q : Int) (hq : 0 ≤ q) : binA Try.prog .or t x y (.int .u8 (IntKind.u8.wrap q)) (.int .u8 128) = some (.int .u8 (128 + q % 128)) := by
  have h := or128 ⟨(q % 256).toNat, by omega⟩
  simp only at h
  rw [show (((q % 256).toNat : Nat) : Int) = q % 256 by omega] at h
  rw [wrap_u8_mod, bin_or, bits_u8, h, wrap_u8 (by omega) (by omega)]
  congr 2; omega
theorem bin_low128 {t : TypeId} {x y : Operand} (q : Int) (hq : 0 ≤ q) : binA Try.prog .andNot t x y (.int .u8 (128 + q % 128)) (.int .u8 128) = some (.int .u8 (q % 128)) := by
  have h := low7 ⟨(128 + q % 128).toNat, by omega⟩
  simp only at h
  rw [show (((128 + q % 128).toNat : Nat) : Int) = 128 + q % 128 by omega] at h
  rw [bin_andNot, bits_u8, h, wrap_u8 (by omega) (by omega)]
  congr 2; omega
set_option maxRecDepth 10000 in
theorem lay_ev (v : Value) (l : List UInt8) (u : Nat) (s : ByteArray) (h : Hp) (hb : Bytes h v l) (hu : u < 18446744073709551616) (hl : l.length < 1099511627776) (hs : s.size < 1099511627776) :
    EvA Try.prog 101 [v, .int .u64 u, .string s] (fun r h' => BAcc h.length h' r (l ++ enc u ++ s.data.toList) ∧ Same h h') h := by
  have hg := grps_le u hu
  have hg1 := grps_pos u
  refine EvA.body Try.func101 rfl (by kernel_rfl) (by simp) ?_
  apply Run.ok
  have hlen := Bytes.len (P := Try.prog) (t := 42) (e := 5) hb (by simp)
  have w1 := wrap_i64 (a := (l.length : Int) + grps u) (by omega) (by omega)
  have w2 := wrap_i64 (a := (l.length : Int) + grps u + s.size) (by omega) (by omega)
  simp
  refine after_call (groups_ev u h hu) ?_
  rintro r h' ⟨rfl, rfl⟩
  have hmk := makeB (l.length + grps u + s.size) h' (by omega)
  have hcast : ((l.length + grps u + s.size : Nat) : Int) = (l.length : Int) + grps u + s.size := by omega
  rw [hcast] at hmk
  simp [hlen, w1, w2, hmk, -makeSlice_of]
  have sm1 : Same h' (h' ++ [Blk.cells (zeros [.int .u8 0] (l.length + grps u + s.size)) false none]) := Same.new _
  obtain ⟨v1, h1, e1, a1, sm2⟩ := appB (makeB_acc (l.length + grps u + s.size) h' (by omega)) sm1 (Bytes.src (hb.same sm1)) (by simp; omega)
  simp [e1]
  have hen := enc_length u
  refine WpA.loop (fun k fr h'' => ∃ (i : Nat) (w : Value), k = grps u - i ∧ i ≤ grps u ∧ fr 25 = .int .i64 (i : Nat) ∧ fr 24 = .int .i64 (grps u : Nat) ∧ fr 7 = .int .i64 (grps u : Nat) ∧ fr 1 = .int .u64 (u : Nat) ∧ fr 2 = .string s ∧ fr 8 = w ∧ BAcc h'.length h'' w (l ++ (enc u).take i) ∧ Same h' h'')
    (k := grps u) ⟨0, v1, rfl, by omega, by simp, by simp, by simp, by simp, by simp, by simp, by simpa using a1, sm2⟩ ?_
  rintro k fr h2 ⟨i, w, rfl, hi, f25, f24, f7, f1, f2, f8, a2, sm3⟩
  apply Run.ok
  simp [f25, f24]
  refine branch_cases (fun c => ?_) (fun c => ?_)
  · have hi2 : i < grps u := by simp at c; omega
    have w3 := wrap_i64 (a := 7 * (i : Int)) (by omega) (by omega)
    have w4 : ¬ (7 * (i : Int) < 0) := by omega
    have w5 : min (7 * (i : Int)).toNat 64 = 7 * i := by omega
    have w6 := wrap_i64 (a := (grps u : Int) - 1) (by omega) (by omega)
    have w7 := wrap_i64 (a := (i : Int) + 1) (by omega) (by omega)
    have hq : (0 : Int) ≤ (u : Int) / 2 ^ (7 * i) := Int.ediv_nonneg (by omega) (Int.pow_nonneg (by decide))
    have hpow : (2 : Nat) ^ (7 * i) = 128 ^ i := by rw [Nat.pow_mul]
    have hqn : (u : Int) / 2 ^ (7 * i) = ((u / 2 ^ (7 * i) : Nat) : Int) := by simp
    simp [f25, f24, f7, f1, f2, f8, w3, w4, w5, w6, bin_or128 _ hq, bin_low128 _ hq]
    refine branch_cases (fun d => ?_) (fun d => ?_)
    · have hd : i + 1 = grps u := by simp at d; omega
      obtain ⟨g1, g2⟩ := enc_last i u hd
      rw [← hpow] at g1 g2
      obtain ⟨v3, h3, e3, a3, sm4⟩ := pushB (UInt8.ofNat (u / 2 ^ (7 * i))) ((u : Int) / 2 ^ (7 * i) % 128) (by rw [hqn]; simp; omega) a2 sm3 (by simp; omega)
      simp [f25, f24, f7, f1, f2, f8, bin_low128 _ hq, capO, zeros, e3, w7]
      refine ⟨grps u - (i + 1), by omega, i + 1, rfl, by omega, by omega, ?_, sm4⟩
      rw [List.take_add_one, g1]; simpa using a3
    · have hd : i + 1 < grps u := by simp at d; omega
      have g1 := enc_at i u hd
      rw [← hpow] at g1
      obtain ⟨v3, h3, e3, a3, sm4⟩ := pushB (UInt8.ofNat (128 + u / 2 ^ (7 * i) % 128)) (128 + (u : Int) / 2 ^ (7 * i) % 128) (by rw [hqn]; simp; omega) a2 sm3 (by simp; omega)
      simp [f25, f24, f7, f1, f2, f8, capO, zeros, e3, w7]
      refine ⟨grps u - (i + 1), by omega, i + 1, rfl, by omega, by omega, ?_, sm4⟩
      rw [List.take_add_one, g1]; simpa using a3
  · have hi2 : i = grps u := by simp at c; omega
    subst hi2
    rw [List.take_of_length_le (by omega)] at a2
    obtain ⟨v3, h3, e3, a3, sm4⟩ := appS a2 sm3 (src_string s) (by simp; omega)
    simp [f8, f2, e3]
    exact ⟨by simpa using a3, sm4⟩
/-- what stands for a count -/
def cntB (n : Int) : List UInt8 := if n < 0 ∨ n > 2147483647 then [] else enc n.toNat
theorem none_ev (v : Value) (l : List UInt8) (h : Hp) (hb : Bytes h v l) (hl : l.length < 1099511627776) :
    EvA Try.prog 100 [v] (fun r h' => BAcc h.length h' r l ∧ Same h h') h := by
  refine EvA.body Try.func100 rfl (by kernel_rfl) (by simp) ?_
  apply Run.ok
  have sm1 : Same h (h ++ [Blk.cells [] false none]) := Same.new _
  obtain ⟨v1, h1, e1, a1, sm2⟩ := appB (h0 := h) (h := h ++ [Blk.cells [] false none]) (v := .slice (some ⟨h.length, 0, none⟩) 0 0) (l := []) (x := v) (m := l)
    ⟨by simp, .inr (.inl ⟨h.length, rfl, rfl, Nat.le_refl _, by simp⟩)⟩ sm1 (Bytes.src (hb.same sm1)) (by simp; omega)
  simp [zeros, capO, e1]
  exact ⟨by simpa using a1, sm2⟩
theorem count_lay_ev (v : Value) (l : List UInt8) (n : Int) (h : Hp) (hb : Bytes h v l) (hl : l.length < 1099511627776) :
    EvA Try.prog 77 [v, .int .i64 n] (fun r h' => BAcc h.length h' r (l ++ cntB n) ∧ Same h h') h := by
  refine EvA.body Try.func77 rfl (by kernel_rfl) (by simp) ?_
  apply Run.ok
  by_cases c1 : n < 0
  · simp [c1]
    refine after_call (none_ev v l h hb hl) ?_
    rintro r h' ⟨q1, q2⟩
    simp [cntB, c1]
    exact ⟨q1, q2⟩
  · by_cases c2 : n > 2147483647
    · simp [c1, c2]
      refine after_call (none_ev v l h hb hl) ?_
      rintro r h' ⟨q1, q2⟩
      simp [cntB, c2]
      exact ⟨q1, q2⟩
    · have w1 := wrap_u64 (a := n) (by omega) (by omega)
      have w2 : ((n.toNat : Nat) : Int) = n := by omega
      simp [c1, c2, w1]
      have := lay_ev v l n.toNat ⟨#[]⟩ h hb (by omega) hl (by decide)
      rw [w2] at this
      refine after_call this ?_
      rintro r h' ⟨q1, q2⟩
      have c3 : ¬ (n < 0 ∨ 2147483647 < n) := by omega
      simp [cntB, c3]
      exact ⟨by simpa using q1, q2⟩
end Go.Proofs.Ytaahkamnpobofaa
