/- Plain laws: the head of a letter that is shown. -/
import Derived.Test.YtpdjgbpmlckepaaDoorSNum
import Derived.Test.YtpdjgbpmlckepaaDoorSBnc
set_option linter.unusedSimpArgs false
set_option linter.unusedVariables false
set_option maxHeartbeats 2000000
set_option maxRecDepth 4000
namespace Go.Ab.Tryd
open Go Go.Ab Go.Proofs

theorem who_seen {x : Ltr} (hx : x.Ok) : ∀ c ∈ whoS x.fro, 32 < c.toNat ∧ c.toNat < 127 := by
  unfold whoS
  split
  · intro c hc
    simp only [List.mem_singleton] at hc; subst hc; decide
  · rename_i h
    intro c hc
    have := mailbox_seen (hx.1.resolve_left h) c hc
    omega
theorem head_no10 {x : Ltr} (hx : x.Ok) : (10 : UInt8) ∉ fromB ++ (whoS x.fro ++ 32 :: Lib.itoa x.at_) := by
  intro h
  rcases List.mem_append.1 h with h | h
  · revert h; decide
  · rcases List.mem_append.1 h with h | h
    · have := who_seen hx _ h; revert this; decide
    · rcases List.mem_cons.1 h with h | h
      · revert h; decide
      · have := itoa_digs hx.2.1 _ h; revert this; decide
theorem who_no32 {x : Ltr} (hx : x.Ok) : (32 : UInt8) ∉ whoS x.fro := by
  intro h
  have := who_seen hx _ h; revert this; decide
/-- The first line of a letter that is shown. -/
theorem cut_show {x : Ltr} (hx : x.Ok) (rest : List UInt8) : cutAt 10 (x.show ++ rest) = some (fromB ++ (whoS x.fro ++ 32 :: Lib.itoa x.at_), quoteS x.body ++ 10 :: rest) := by
  have := cutAt_of_not (y := quoteS x.body ++ 10 :: rest) (head_no10 hx)
  rw [← this]
  unfold Ltr.show
  simp
theorem pref_show (x : Ltr) : prefR fromB (fromB ++ (whoS x.fro ++ 32 :: Lib.itoa x.at_)) = some (whoS x.fro ++ 32 :: Lib.itoa x.at_) := by
  unfold prefR
  rw [if_pos ⟨by simp, by simp⟩]
  simp
theorem cut_who {x : Ltr} (hx : x.Ok) : cutAt 32 (whoS x.fro ++ 32 :: Lib.itoa x.at_) = some (whoS x.fro, Lib.itoa x.at_) := cutAt_of_not (who_no32 hx)

end Go.Ab.Tryd
