/- Walks: what a sender is told. -/
import Derived.Test.YtbncpinpfmfjiaaDoorLHead9
import Derived.Test.YtbncpinpfmfjiaaDoorLMime1
import Derived.Test.YtbncpinpfmfjiaaDoorLMail
import Derived.Test.YtbncpinpfmfjiaaDoorLRef07
import Derived.Test.YtbncpinpfmfjiaaDoorAb33
import Derived.Test.YtbncpinpfmfjiaaDoorShJoin
import Derived.Test.YtbncpinpfmfjiaaDoorSBnc
import Derived.Lib.ItoaLen
set_option linter.unusedSimpArgs false
set_option linter.unusedVariables false
set_option maxHeartbeats 4000000
set_option maxRecDepth 4000
namespace Go.Ab.Tryd
open Go Go.Ab Go.Proofs
attribute [local irreducible] W Wl Wop TrA WSeq WLoopS FPost DPost RPost WRound DK onEnd
variable {n0 : Nat} {w0 : World} {gl : Nat → List AV} {H : List AO}
attribute [local simp] belowL_bytesAV

theorem join_flat (xs : List (List UInt8)) : Lib.join xs [] = xs.flatten := by
  cases xs with
  | nil => rfl
  | cons x r =>
    rw [Lib.join_cons]
    have : r.map (fun y => ([] : List UInt8) ++ y) = r := by
      conv => rhs; rw [← List.map_id r]
      rfl
    rw [Lib.joinTail, this]; rfl
instance join_t (xs : List (List UInt8)) (n : Nat) (tok : Tok) : Ctr (env n0 w0 gl) 99 [.sl n (xs.map .str) tok, .str []] H (xs.length = n ∧ 0 < n ∧ n ≤ 1000000000 ∧ xs.flatten.length ≤ 140737488355328) (.str xs.flatten) H := .of fun ⟨hn, h0, hn2, hl⟩ =>
  AEnter.of_calls (fn := Tryd.f99) Tryd.func99 rfl rfl fun g w cs hr hv => by
    obtain ⟨c, d, rfl, h1, h2⟩ := rels2 hv
    have h3 := h2.str_inv
    subst h3
    obtain ⟨b, o, cap, rfl, hc, hlt, hcell⟩ := sl_strs hr h1 hn h0
    have hm : (xs.map fun x => (⟨x.toArray⟩ : ByteArray)).map (·.data.toList) = xs := by
      rw [List.map_map]
      conv => rhs; rw [← List.map_id xs]
      exact List.map_congr_left fun x _ => by simp
    have key := Tryd.strings_Join b o cap (xs.map fun x => (⟨x.toArray⟩ : ByteArray)) ⟨#[]⟩ w (fun j x hj => by
      rw [List.getElem?_map] at hj
      cases hx : xs[j]? with
      | none => rw [hx] at hj; simp at hj
      | some y => rw [hx] at hj; simp only [Option.map_some, Option.some.injEq] at hj; subst hj; exact hcell j y hx) hlt (by rw [List.length_map]; omega) (by rw [List.length_map]; omega) (by rw [hm, join_flat]; exact hl)
    rw [hm, List.length_map, hn, join_flat] at key
    refine key.mono ?_
    rintro e w' ⟨rfl, hb⟩
    exact econc_ret hr hb (.str _ _ rfl)

instance joined_t (xs : List (List UInt8)) (n : Nat) (tok : Tok) : Ctr (env n0 w0 gl) 60 [.sl n (xs.map .str) tok] H (xs.length = n ∧ 0 < n ∧ n ≤ 1000000000 ∧ xs.flatten.length ≤ 1000000000) (.sl xs.flatten.length (bytesAV xs.flatten) .ro) H := .of fun ⟨hn, h0, hn2, hl⟩ => by
  refine enter (md := fun _ => 0) Tryd.func60 (fun hfit hgl => ?_)
  repeat' (first | refine go ?_ | (refine br (fun hc => ?_) (fun hc => ?_) <;> try (exfalso; omega)) | fail)
  exact .now ⟨rfl, rfl⟩

/-- A head that is shown, with room behind it. -/
theorem showT_e (l : Flds) (s : List UInt8) (tok : Tok) (hl : l.length ≤ 9223372036854775807) (hb : ∀ i, i < l.length → (l.getD i ([], [])).1.length + (l.getD i ([], [])).2.length ≤ 1000000) (hq : showR l = .inl s) :
    AEnter (env n0 w0 gl) 59 [.sl l.length (fldAV l) .ro] H (fun y H' => y = .ret (.tup [.sl s.length (bytesAV s) (.at (H.length + 4) s.length), .int .i64 0]) ∧ H' = H ++ [.cells [.sl l.length (fldAV l) .ro], .cells [.sl s.length (bytesAV s) (.at (H.length + 4) s.length)], .cells [.int .i64 0], .dead, .tail 1 s.length]) := by
  have hp := show1_t (n0 := n0) (w0 := w0) (gl := gl) (H := H) l hl hb
  refine enter (md := fun _ => 0) Tryd.func59 (fun hfit hgl => ?_)
  repeat' (first | refine go ?_ | (refine br (fun hc => ?_) (fun hc => ?_) <;> try (exfalso; omega)) | fail)
  ((with_reducible apply wop_call); (· rfl); (· rfl); (· (simp only [AAct.ev, List.getD_cons_zero, List.getD_cons_succ, constAV, env_gl]; try exact rfl)); (· (simp only [evCallArgs, List.map_cons, List.map_nil, List.nil_append, List.append_nil, List.cons_append, Array.toList, List.toList_toArray, AAct.ev, List.getD_cons_zero, List.getD_cons_succ, constAV, env_gl]; try exact rfl)))
  rw [hq] at hp
  refine (head_caught_t (R := fun x H' => x = .ret (.int .i64 0) ∧ H' = H ++ [.cells [.sl l.length (fldAV l) .ro], .cells [.vsl (H.length + 3) s.length], .cells [.int .i64 0], .vec 1 s.length (bytesAV s)]) _ [] _ fun hf2 => ?_).call.mono ?_
  · simp only [List.append_assoc, List.cons_append, List.nil_append]
    refine hp.call.mono ?_
    rintro x H' ⟨rfl, rfl⟩
    exact ⟨by simp, .inl ⟨rfl, .now ⟨rfl, by simp⟩⟩⟩
  · rintro x H' ⟨rfl, rfl⟩
    refine gos ?_
    refine wseq_shift (Shift.cellTail (H.length + 1) 0 (H.length + 3) (xs := [.vsl (H.length + 3) s.length]) (sz := 1) (n := s.length) (ys := bytesAV s) (by simp [getE]) rfl (by simp) (by simp [getE]) rfl) ?_
    simp only [getE, setE, List.set_cons_succ, List.set_cons_zero, List.append_assoc, List.cons_append, List.nil_append, List.length_append, List.length_cons, List.length_nil, Nat.zero_add, Nat.reduceAdd]
    repeat' (first | refine go ?_ | (refine br (fun hc => ?_) (fun hc => ?_) <;> try (exfalso; omega)) | fail)
    exact .now ⟨rfl, rfl⟩

end Go.Ab.Tryd
