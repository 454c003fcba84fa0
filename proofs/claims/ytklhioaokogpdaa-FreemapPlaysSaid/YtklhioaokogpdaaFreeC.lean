/- freemap's New, Take, Copy, Bytes: what they answer; no condition. -/
import Derived.Test.YtklhioaokogpdaaFreeB
namespace Go.Proofs.Ytklhioaokogpdaa
open Go.Ab Go.Free
def tabZ : ByteArray := ⟨((List.range 256).map fun i => UInt8.ofNat (ntz i)).toArray⟩
def tabO : ByteArray := ⟨((List.range 256).map fun i => UInt8.ofNat (ones i)).toArray⟩
theorem tabZ_get (i : Nat) (hi : i < 256) : tabZ[i]? = some (UInt8.ofNat (ntz i)) := by
  have hs : tabZ.size = 256 := by simp [tabZ, ByteArray.size]
  rw [getElem?_pos tabZ i (by omega)]
  simp [tabZ, ByteArray.getElem_eq_getElem_data]
theorem tabO_get (i : Nat) (hi : i < 256) : tabO[i]? = some (UInt8.ofNat (ones i)) := by
  have hs : tabO.size = 256 := by simp [tabO, ByteArray.size]
  rw [getElem?_pos tabO i (by omega)]
  simp [tabO, ByteArray.getElem_eq_getElem_data]
theorem ntz_le : ∀ i : Fin 256, ntz i.val ≤ 8 := by decide +kernel
theorem ones_le : ∀ i : Fin 256, ones i.val ≤ 8 := by decide +kernel
set_option maxRecDepth 100000 in
theorem ntz_ev (c : Nat) (hc : c < 256) (h : Hp) : EvA Try.prog 74 [.int .u8 (c : Int)] (fun r h' => h' = h ∧ r = .int .i64 (ntz c : Nat)) h := by
  refine EvA.body Try.func74 rfl (by kernel_rfl) (by simp) ?_
  apply Run.ok
  generalize hT : (Value.string _) = T
  have hT' : T = .string tabZ := by rw [← hT]; kernel_rfl
  clear hT; subst hT'
  have h8 := ntz_le ⟨c, hc⟩
  simp only at h8
  simp [tabZ_get c hc]
  rw [wrap_i64 (by omega) (by omega)]; omega
set_option maxRecDepth 100000 in
theorem ones_ev (c : Nat) (hc : c < 256) (h : Hp) : EvA Try.prog 67 [.int .u8 (c : Int)] (fun r h' => h' = h ∧ r = .int .i64 (ones c : Nat)) h := by
  refine EvA.body Try.func67 rfl (by kernel_rfl) (by simp) ?_
  apply Run.ok
  generalize hT : (Value.string _) = T
  have hT' : T = .string tabO := by rw [← hT]; kernel_rfl
  clear hT; subst hT'
  have h8 := ones_le ⟨c, hc⟩
  simp only at h8
  simp [tabO_get c hc]
  rw [wrap_i64 (by omega) (by omega)]; omega
theorem notB0 : ∀ b : Fin 256, IntKind.u8.wrap ((BitVec.ofInt 8 (255 : Int) ^^^ BitVec.ofInt 8 (b.val : Int)).toNat : Int) = ((255 - b.val : Nat) : Int) := by decide +kernel
theorem notB (b : Fin 256) : unA .xor (.int .u8 (b.val : Int)) = some (.int .u8 ((255 - b.val : Nat) : Int)) := by
  rw [← notB0 b]; rfl
theorem indexB_ev {h : Hp} {v : Value} {l : List UInt8} (hv : Row h 1 v l.length (l.map byteV)) (hl : l.length ≤ 1000000000000000) :
    EvA Try.prog 72 [v, .func (.func 73) #[] #[]] (fun r h' => h' = h ∧ r = .int .i64 (match l.findIdx? (fun c => c != 255) with | some i => (i : Int) | none => -1)) h := by
  refine EvA.body Try.func72 rfl (by kernel_rfl) (by simp) ?_
  apply Run.ok
  have hlen := Row.len (P := Try.prog) (t := 22) (e := 5) hv (by simp)
  simp [hlen]
  refine WpA.loop (fun k fr h' => ∃ i, k = l.length - i ∧ i ≤ l.length ∧ fr 0 = v ∧ fr 1 = .func (.func 73) #[] #[] ∧ fr 7 = .int .i64 (l.length : Nat) ∧ fr 8 = .int .i64 (i : Nat) ∧ h' = h ∧ ∀ x ∈ l.take i, x = 255)
    (k := l.length) ⟨0, by simp, by omega, by simp, by simp, by simp, by simp, rfl, by simp⟩ ?_
  rintro k fr h' ⟨i, rfl, hi, f0, f1, f7, f8, rfl, hp⟩
  apply Run.ok
  by_cases c : i < l.length
  · have c' : (i : Int) < l.length := by omega
    have w1 : IntKind.i64.wrap ((i : Int) + 1) = (i : Int) + 1 := wrap_i64 (by omega) (by omega)
    have ia := Row.ia1 (P := Try.prog) (t := 22) (e := 5) hv (by simp) (by simp) c .i64
    have ld := Row.ld1 (P := Try.prog) (f := 5) hv (by simp) c
    rw [List.getElem?_map, List.getElem?_eq_getElem c] at ld
    simp only [Option.map_some, byteV] at ld
    have hne : ((l[i].toNat : Int) != 255) = (l[i] != 255) := by
      by_cases h : l[i] = 255
      · rw [h]; rfl
      · have h2 : ¬ l[i].toNat = 255 := fun he => h (UInt8.toNat_inj.1 (by simpa using he))
        have h3 : (l[i] != 255) = true := by simpa using h
        rw [h3]; simp; omega
    simp [f0, f1, f7, f8, c', ia, ld, -load_ptr]
    refine after_call (Q := fun r h2 => h2 = h' ∧ r = .bool (l[i] != 255)) ?_ ?_
    · refine EvA.body Try.func73 rfl (by kernel_rfl) (by simp) ?_
      apply Run.ok
      simp [hne]
    rintro r h2 ⟨rfl, rfl⟩
    cases hpx : (l[i] != 255) with
    | true =>
      simp [f0, f1, f7, f8]
      have : l.findIdx? (fun c => c != 255) = some i := by
        rw [List.findIdx?_eq_some_iff_getElem]
        refine ⟨c, hpx, fun j hj => ?_⟩
        have := hp l[j] (List.mem_take_iff_getElem.2 ⟨j, by omega, by simp⟩)
        simp [this]
      simp [this]
    | false =>
      simp [f0, f1, f7, f8, w1, -roundQ_normal, ↓rq]
      refine stop_intro ⟨l.length - (i + 1), by omega, i + 1, rfl, by omega, by simp [f0], by simp [f1], by simp [f7], by simp, rfl, fun x hx => ?_⟩
      rw [List.take_add_one, List.getElem?_eq_getElem c] at hx
      rcases List.mem_append.1 hx with hx | hx
      · exact hp x hx
      · simp at hx; subst hx; simpa using hpx
  · have c' : ¬ (i : Int) < l.length := by omega
    simp [f7, f8, c']
    have : l.findIdx? (fun c => c != 255) = none := by
      rw [List.findIdx?_eq_none_iff]
      intro x hx
      rw [List.take_of_length_le (by omega)] at hp
      simp [hp x hx]
    simp [this]
theorem find_pk (T : List Bool) : (pk T).findIdx? (fun c => c != 255) = if first T < 8 * (pk T).length then some (first T / 8) else none := by
  by_cases c : first T < 8 * (pk T).length
  · rw [if_pos c, List.findIdx?_eq_some_iff_getElem]
    have hj : first T / 8 < (pk T).length := by omega
    refine ⟨hj, ?_, fun j hjf => ?_⟩
    · rw [pk_get]
      have := byteN_not_full T (first T / 8) (first T % 8) (by omega) (bt_first T c)
      have h2 := byteN_lt T (first T / 8)
      simp only [bne_iff_ne, ne_eq]
      intro he
      have := congrArg UInt8.toNat he
      simp at this; omega
    · rw [pk_get, byteN_full T j (by omega)]; simp
  · rw [if_neg c, List.findIdx?_eq_none_iff]
    intro x hx
    obtain ⟨j, hj, rfl⟩ := List.mem_iff_getElem.1 hx
    rw [pk_get, byteN_full T j (by omega)]; simp
def takeT (T : List Bool) : Int × Int × List Bool := if first T < T.length then ((first T : Nat), 0, T.set (first T) true) else (0, 3, T)
theorem ftake_ev {h : Hp} {k b : Nat} {v : Value} {T : List Bool} (m : FM h k b v T) :
    EvA Try.prog 26 [.pointer (some ⟨b, 0, none⟩)] (fun r h' => r = .tuple #[.int .i64 (takeT T).1, .int .i64 (takeT T).2.1] ∧ FM h' k b v (takeT T).2.2 ∧ Upd (own b v T) h h') h := by
  refine EvA.body Try.func26 rfl (by kernel_rfl) (by simp) ?_
  apply Run.ok
  have hl := m.len
  have hpl := pk_length T
  simp [m.l2, -load_ptr]
  refine after_call (indexB_ev m.bits.row (by omega)) ?_
  rintro r h' ⟨rfl, rfl⟩
  rw [find_pk]
  by_cases c : first T < 8 * (pk T).length
  · rw [if_pos c]
    have hj : first T / 8 < (pk T).length := by omega
    have hrow : Row h' 1 v (pk T).length ((pk T).map byteV) := m.bits.row
    have hb := byteN_lt T (first T / 8)
    obtain ⟨a, ha⟩ : ∃ a, first T / 8 = a := ⟨_, rfl⟩
    rw [ha] at hj hb
    have ia := Row.ia1 (P := Try.prog) (t := 22) (e := 5) hrow (by simp) (by simp) hj .i64
    have ld := Row.ld1 (P := Try.prog) (f := 5) hrow (by simp) hj
    rw [List.getElem?_map, List.getElem?_eq_getElem hj] at ld
    simp only [Option.map_some, byteV, pk_nat] at ld
    have hn0 : ¬ ((a : Nat) : Int) < 0 := by omega
    have w1 : IntKind.i64.wrap (8 * (a : Int)) = 8 * (a : Int) := wrap_i64 (by omega) (by omega)
    have ht : ntz (255 - byteN T a) = first T % 8 := by
      refine ntz_first ⟨byteN T a, hb⟩ ⟨first T % 8, by omega⟩ (fun q hq => ?_) ?_
      · simp only at hq ⊢
        rw [byteN_bit T a q.val q.isLt]
        have := bt_before T (8 * a + q.val) (by omega)
        rw [show (8 * a + q.val) / 8 = a by omega, show (8 * a + q.val) % 8 = q.val by omega] at this
        rw [this]; rfl
      · simp only
        rw [byteN_bit T a _ (by omega), ← ha, bt_first T c]; rfl
    have hx : unA .xor (.int .u8 (byteN T a : Nat)) = some (.int .u8 ((255 - byteN T a : Nat) : Int)) := notB ⟨byteN T a, hb⟩
    simp [ha, hn0, w1, m.l2, ia, ld, hx, -load_ptr]
    refine after_call (ntz_ev (255 - byteN T a) (by omega) _) ?_
    rintro r2 h2 ⟨rfl, rfl⟩
    rw [ht]
    have w2 : IntKind.i64.wrap (8 * (a : Int) + ((first T % 8 : Nat) : Int)) = ((first T : Nat) : Int) := by rw [wrap_i64 (by omega) (by omega)]; omega
    by_cases d : first T < T.length
    · have d' : ¬ ((T.length : Int) ≤ (first T : Nat)) := by omega
      simp [m.l0, w2, d', -load_ptr, -Int.natCast_emod]
      refine after_call (claim_ev ((first T : Nat) : Int) m) ?_
      rintro r3 h3 ⟨rfl, m3, u3⟩
      have hc : claimT T ((first T : Nat) : Int) = (0, T.set (first T) true) := by
        have := first_false T d
        simp [claimT, d, List.getD_eq_getElem?_getD, this]
      rw [hc] at m3 ⊢
      simp [takeT, d]
      exact ⟨m3, u3⟩
    · have d' : ((T.length : Int) ≤ (first T : Nat)) := by omega
      simp [m.l0, w2, d', takeT, d, -load_ptr, -Int.natCast_emod]
      exact ⟨m, Upd.refl⟩
  · have d : ¬ first T < T.length := by rw [hpl] at c; omega
    rw [if_neg c]
    simp [takeT, d]
    exact ⟨m, Upd.refl⟩
end Go.Proofs.Ytklhioaokogpdaa
