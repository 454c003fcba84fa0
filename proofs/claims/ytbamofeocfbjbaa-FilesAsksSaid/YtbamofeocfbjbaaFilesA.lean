/- Paths: what the program's Path and the document's answer; no condition. -/
import Derived.Test.YtbamofeocfbjbaaIndexByte
import Derived.Test.YtbamofeocfbjbaaPFiles
import Derived.Test.YtbamofeocfbjbaaRMatch
namespace Go.Proofs.Ytbamofeocfbjbaa
open Go.Ab Go.Glob
theorem plain_ev (c : UInt8) (h : Hp) : EvA Try.prog 56 [.int .u8 (c.toNat : Nat)] (fun r h' => h' = h ∧ r = .bool (plainC c)) h := by
  refine EvA.body Try.func56 rfl (by kernel_rfl) (by simp) ?_
  apply Run.ok
  unfold plainC
  rcases atoms c.toNat with ⟨a1, a2, b1, b2, d1, d2, e, u, p, s, v⟩ | ⟨a1, a2, b1, b2, d1, d2, e, u, p, s, v⟩ | ⟨a1, a2, b1, b2, d1, d2, e, u, p, s, v⟩ | ⟨a1, a2, b1, b2, d1, d2, e, u, p, s, v⟩ | ⟨a1, a2, b1, b2, d1, d2, e, u, p, s, v⟩ | ⟨a1, a2, b1, b2, d1, d2, e, u, p, s, v⟩ | ⟨a1, a2, b1, b2, d1, d2, e, u, p, s, v⟩ | ⟨a1, a2, b1, b2, d1, d2, e, u, p, s, v⟩ | ⟨a1, a2, b1, b2, d1, d2, e, u, p, s, v⟩ | ⟨a1, a2, b1, b2, d1, d2, e, u, p, s, v⟩ | ⟨a1, a2, b1, b2, d1, d2, e, u, p, s, v⟩ | ⟨a1, a2, b1, b2, d1, d2, e, u, p, s, v⟩
  all_goals
    simp [a1, a2, b1, b2, d1, d2, e, u, p, v]
theorem index_ev (l : Bs) (h : Hp) : EvA Try.prog 126 [.string (bs l), .string ⟨#[47]⟩] (fun r h' => h' = h ∧ r = .int .i64 (Lib.indexByte l 47)) h := by
  refine EvA.body Try.func126 rfl (by kernel_rfl) (by simp) ?_
  apply Run.ok
  have z1 : (ByteArray.mk #[47]).size = 1 := rfl
  have z2 : (ByteArray.mk #[47])[0]? = some 47 := rfl
  have z3 : bs [47] = ByteArray.mk #[47] := rfl
  by_cases c : l = [47]
  · subst c
    simp [Lib.indexByte, z1, z3]
  · have c' : ¬ ByteArray.mk #[47] = bs l := fun e => c (by rw [← z3] at e; simpa using e.symm)
    simp [c', z1]
    refine after_call (indexByte_ev l 47 _) ?_
    rintro r h' ⟨rfl, rfl⟩
    simp
theorem cut_ev (l : Bs) (h : Hp) (hl : l.length < 1000000000) : EvA Try.prog 84 [.string (bs l), .string ⟨#[47]⟩] (fun r h' => h' = h ∧ r = .tuple #[.string (bs (cutS l).1), .string (bs (cutS l).2.1), .bool (cutS l).2.2]) h := by
  refine EvA.body Try.func84 rfl (by kernel_rfl) (by simp) ?_
  apply Run.ok
  simp
  refine after_call (EvA.body Try.func106 (Q := fun r h' => h' = h ∧ r = .tuple #[.string (bs (cutS l).1), .string (bs (cutS l).2.1), .bool (cutS l).2.2]) rfl (by kernel_rfl) (by simp) ?_) ?_
  · apply Run.ok
    simp
    refine after_call (index_ev l _) ?_
    rintro r h' ⟨rfl, rfl⟩
    have hs := cutS_spec l
    cases hf : (cutS l).2.2 with
    | true =>
      obtain ⟨h1, h2⟩ := hs.1 hf
      have hn : (cutS l).1.length < l.length := by have := congrArg List.length h1; simp at this; omega
      obtain ⟨x, hx⟩ : ∃ x, x = (cutS l).1 := ⟨_, rfl⟩
      obtain ⟨y, hy⟩ : ∃ y, y = (cutS l).2.1 := ⟨_, rfl⟩
      rw [← hx] at h1 h2 hn ⊢
      rw [← hy] at h1 ⊢
      clear hx hy hs hf
      have htk : l.take x.length = x := by rw [h1]; simp
      have hdr : l.drop (x.length + 1) = y := by rw [h1]; simp
      have hty : y.take (l.length - (x.length + 1)) = y := List.take_of_length_le (by have := congrArg List.length hdr; simp at this; omega)
      have c3 : (0 : Int) ≤ (x.length : Int) + 1 := by omega
      rw [h2]
      have z1 : (ByteArray.mk #[47]).size = 1 := rfl
      have c1 : ((x.length : Nat) : Int) ≤ l.length := by omega
      have c2 : ((x.length : Nat) : Int) + 1 ≤ l.length := by omega
      have w1 : IntKind.i64.wrap ((x.length : Int) + 1) = (x.length : Int) + 1 := wrap_i64 (by omega) (by omega)
      simp
      refine WpA.drawnA [0, 1, 2, 3, 4, 5, 6, 7, 8, 9, 10, 11] [] (by kernel_rfl) (by decide +kernel) (by decide +kernel) ?_
      simp [c1, c2, c3, w1, z1, bs_extract, htk, hdr, hty]
    | false =>
      obtain ⟨h1, h2, h3⟩ := hs.2 hf
      rw [h1, h2, h3]
      simp [show (ByteArray.mk #[] : ByteArray) = bs [] from rfl]
  · rintro r g ⟨rfl, rfl⟩
    simp
end Go.Proofs.Ytbamofeocfbjbaa
