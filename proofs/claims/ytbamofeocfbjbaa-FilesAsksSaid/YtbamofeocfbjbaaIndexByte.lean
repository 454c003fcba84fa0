/- stringslite.IndexByte, Index of one byte, Cut at one byte: what they answer; no condition. -/
import Derived.WalkKit
import Derived.Lib.Bytealg
import Derived.Test.YtbamofeocfbjbaaProg
import Derived.Test.YtbamofeocfbjbaaAb32
namespace Go.Proofs.Ytbamofeocfbjbaa
open Go.Ab
set_option maxRecDepth 100000 in
theorem indexByte_calls (s : ByteArray) (c : Int) (w : World) :
    Calls Try.prog 135 #[.string s, .int .u8 c] w fun e w' => e = .returned (.int .i64 (Lib.indexByte s.data.toList c.toNat.toUInt8)) ∧ w' = w := by
  go_enter Try.func135, Try.ntmps135
  go_wp2
  rw [run_callFunc_extern Try.func141 (by kernel_rfl) (by kernel_rfl) (by kernel_rfl) (e := Extern.BytealgIndexByte.indexByte) (by kernel_rfl), Lib.run_indexByteString]
  simp only [Result.andThen]
  rw [Oper.upon_value]
  go_wp2
  go_ret
  exact ⟨rfl, rfl⟩
theorem ground_eq {μ : Emb} {v y : Value} (hg : ground v = true) (h : VRel μ v y) : y = v := by
  unfold ground at hg
  split at hg <;> first | (simp at hg; done) | (cases h; rfl)
theorem grounds_eq {μ : Emb} : ∀ {l : List Value} {m : List Value}, (∀ x ∈ l, ground x = true) → LRel μ l m → m = l := by
  intro l
  induction l with
  | nil => intro m _ h; have := h.1; cases m with | nil => rfl | cons => simp at this
  | cons x l ih =>
    intro m hg h
    cases m with
    | nil => have := h.1; simp at this
    | cons y m =>
      have h1 : VRel μ x y := h.2 0 x y rfl rfl
      have h2 : LRel μ l m := ⟨by simpa using h.1, fun i a b ha hb => h.2 (i + 1) a b (by simpa using ha) (by simpa using hb)⟩
      rw [ground_eq (hg x (by simp)) h1, ih (fun z hz => hg z (by simp [hz])) h2]
/-- a contract over the program's own values, all of them ground -/
theorem EvA.ofCalls {P : Program} {f : FuncId} {args : List Value} {r : Value} (hc : callable P f = true) (hf : ∀ x ∈ args, ground x = true) (hr : ∀ μ, VRel μ r r)
    (hp : ∀ w, Calls P f args.toArray w fun e w' => e = .returned r ∧ w' = w) (h : Hp) : EvA P f args (fun v h' => h' = h ∧ v = r) h := by
  refine ⟨hc, fun μ w vs hrel hl => ?_⟩
  have : vs = args.toArray := by rw [← grounds_eq hf hl]
  subst this
  exact (hp w).mono fun e w' ⟨e1, e2⟩ => ⟨μ, h, r, r, e1, by subst e2; exact Step.refl hrel, hr μ, rfl, rfl⟩
theorem indexByte_ev (l : List UInt8) (c : UInt8) (h : Hp) : EvA Try.prog 135 [.string (bs l), .int .u8 (c.toNat : Nat)] (fun r h' => h' = h ∧ r = .int .i64 (Lib.indexByte l c)) h := by
  refine EvA.ofCalls (by kernel_rfl) (by simp [ground]) (fun μ => .int _ _) (fun w => ?_) h
  have := indexByte_calls (bs l) (c.toNat : Nat) w
  simpa [bs] using this
end Go.Proofs.Ytbamofeocfbjbaa
