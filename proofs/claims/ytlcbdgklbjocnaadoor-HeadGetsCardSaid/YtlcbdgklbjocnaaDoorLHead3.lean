/- Walks: the field of a name. -/
import Derived.Test.YtlcbdgklbjocnaaDoorLHead2
set_option linter.unusedSimpArgs false
set_option linter.unusedVariables false
set_option maxHeartbeats 2000000
set_option maxRecDepth 4000
namespace Go.Ab.Tryd
open Go Go.Ab Go.Proofs
attribute [local irreducible] W Wl Wop TrA WSeq WLoopS FPost DPost RPost WRound DK onEnd
variable {n0 : Nat} {w0 : World} {gl : Nat → List AV} {H : List AO}

def Bounded (l : List (List UInt8 × List UInt8)) : Prop := l.length ≤ 9223372036854775807 ∧ ∀ i, i < l.length → (l.getD i ([], [])).1.length ≤ 9223372036854775807
def getV : List (List UInt8) → AV
  | [] => .tup [.str [], .bool false]
  | x :: _ => .tup [.str x, .bool true]
theorem foldR_first (xs : List (List UInt8)) : foldR (fun (_ : Unit) x => (.stop x : Res Unit (List UInt8) Empty)) () xs = match xs with
    | [] => .go ()
    | x :: _ => .stop x := by cases xs <;> rfl
theorem foldR_count : ∀ (xs : List (List UInt8)) (k : Nat), foldR (fun (j : Nat) _ => (.go (j + 1) : Res Nat Unit Empty)) k xs = .go (k + xs.length)
  | [], k => rfl
  | x :: xs, k => by simp only [foldR, foldR_count xs (k + 1), List.length_cons]; congr 1; omega
theorem bodies_len (nm : List UInt8) (l : List (List UInt8 × List UInt8)) : (bodies nm l).length ≤ l.length := by
  simp only [bodies, List.length_map]; exact List.length_filter_le _ _

instance get_t (l : List (List UInt8 × List UInt8)) (nm : List UInt8) : Ctr (env n0 w0 gl) 30 [.sl l.length (fldAV l) .ro, .str nm] H (Bounded l ∧ nm.length ≤ 9223372036854775807) (getV (bodies (nm.map lowB) l)) H := .of fun ⟨⟨hl, hn⟩, hs⟩ => by
  refine enter (md := fun _ => 0) Tryd.func30 (fun hfit hgl => ?_)
  repeat' (first | refine go ?_ | (refine br (fun hc => ?_) (fun hc => ?_) <;> try (exfalso; omega)) | fail)
  refine over (fun p => [.str p]) (fun (_ : Unit) (_ : Unit) => H ++ [.cells [.str []], .cells [.bool false], .cells [.sl l.length (fldAV l) .ro], .cells [.str (nm.map lowB)]]) (fun (o : List UInt8) (_ : Unit) => H ++ [.cells [.str o], .cells [.bool true], .cells [.sl l.length (fldAV l) .ro], .cells [.str (nm.map lowB)]]) (fun (e : Empty) _ => nomatch e) (fun (e : Empty) => nomatch e) (fun _ => .ret) (fun _ x => .stop x) () () (bodies (nm.map lowB) l) ?_ ?_ ?_ ?_ ?_
  · intro fn G S T hG hS h
    exact named1_t l (nm.map lowB) hl hn (n := H.length + 4 + 2) (fun j r k => by simp [G, getE]) (fun j r k => by simp [G, getE]) (fun j r => by simp [G]) (fun j r => by simp [S]) hG hS (by omega) h
  · intro fn pre x post j r l' hx hj hft
    repeat' (first | refine go ?_ | (refine br (fun hc => ?_) (fun hc => ?_) <;> try (exfalso; omega)) | fail)
    exact .now ⟨rfl, by simp⟩
  · intro j r hr
    have hb : bodies (nm.map lowB) l = [] := by
      rw [foldR_first] at hr
      cases h : bodies (nm.map lowB) l with
      | nil => rfl
      | cons x xs => rw [h] at hr; simp at hr
    rw [hb]
    repeat' (first | refine go ?_ | (refine br (fun hc => ?_) (fun hc => ?_) <;> try (exfalso; omega)) | fail)
    exact .junkd ⟨rfl, rfl⟩
  · intro o r hr
    have hb : ∃ xs, bodies (nm.map lowB) l = o :: xs := by
      rw [foldR_first] at hr
      cases h : bodies (nm.map lowB) l with
      | nil => rw [h] at hr; simp at hr
      | cons x xs => rw [h] at hr; simp at hr; exact ⟨xs, by rw [hr]⟩
    obtain ⟨xs, hb⟩ := hb
    rw [hb]
    repeat' (first | refine go ?_ | (refine br (fun hc => ?_) (fun hc => ?_) <;> try (exfalso; omega)) | fail)
    exact .junkd ⟨rfl, rfl⟩
  · intro fn e; nomatch e

instance count_t (l : List (List UInt8 × List UInt8)) (nm : List UInt8) : Ctr (env n0 w0 gl) 32 [.sl l.length (fldAV l) .ro, .str nm] H (Bounded l ∧ nm.length ≤ 9223372036854775807) (.int .i64 (bodies (nm.map lowB) l).length) H := .of fun ⟨⟨hl, hn⟩, hs⟩ => by
  refine enter (md := fun _ => 0) Tryd.func32 (fun hfit hgl => ?_)
  repeat' (first | refine go ?_ | (refine br (fun hc => ?_) (fun hc => ?_) <;> try (exfalso; omega)) | fail)
  refine over (fun p => [.str p]) (fun (j : Nat) (_ : Unit) => H ++ [.cells [.int .i64 j], .cells [.sl l.length (fldAV l) .ro], .cells [.str (nm.map lowB)]]) (fun (o : Unit) (_ : Unit) => H ++ [.cells [.int .i64 0], .cells [.sl l.length (fldAV l) .ro], .cells [.str (nm.map lowB)]]) (fun (e : Empty) _ => nomatch e) (fun (e : Empty) => nomatch e) (fun _ => .ret) (fun j _ => .go (j + 1)) 0 () (bodies (nm.map lowB) l) ?_ ?_ ?_ ?_ ?_
  · intro fn G S T hG hS h
    exact named1_t l (nm.map lowB) hl hn (n := H.length + 3 + 2) (fun j r k => by simp [G, getE]) (fun j r k => by simp [G, getE]) (fun j r => by simp [G]) (fun j r => by simp [S]) hG hS (by omega) h
  · intro fn pre x post j r l' hx hj hft
    have hle := bodies_len (nm.map lowB) l
    rw [foldR_count, Nat.zero_add] at hj
    injection hj with hj
    rw [hx, List.length_append, List.length_cons] at hle
    repeat' (first | refine go ?_ | (refine br (fun hc => ?_) (fun hc => ?_) <;> try (exfalso; omega)) | fail)
    exact .now ⟨rfl, by simp⟩
  · intro j r hr
    rw [foldR_count, Nat.zero_add] at hr
    injection hr with hr
    subst hr
    repeat' (first | refine go ?_ | (refine br (fun hc => ?_) (fun hc => ?_) <;> try (exfalso; omega)) | fail)
    exact .junkd ⟨rfl, rfl⟩
  · intro o r hr
    rw [foldR_count] at hr
    nomatch hr
  · intro fn e; nomatch e

instance ref_get_t (l : List (List UInt8 × List UInt8)) (nm : List UInt8) : Ctr (env n0 w0 gl) 31 [.sl l.length (fldAV l) .ro, .str nm] H (Bounded l ∧ nm.length ≤ 9223372036854775807) (.tup [.str ((bodies (nm.map lowB) l).headD []), .int .i64 (bodies (nm.map lowB) l).length]) H := .of fun ⟨⟨hl, hn⟩, hs⟩ => by
  have hfl := fldAV_len l
  refine enter (md := fun _ => 0) Tryd.func31 (fun hfit hgl => ?_)
  repeat' (first | refine go ?_ | (refine br (fun hc => ?_) (fun hc => ?_) <;> try (exfalso; omega)) | fail)
  refine loop0 (fun i : Nat => (.top :: .str nm :: .top :: .top :: .top :: .top :: .str ((bodies (nm.map lowB) (l.take i)).headD []) :: .int .i64 (bodies (nm.map lowB) (l.take i)).length :: .top :: .top :: .sl l.length (fldAV l) .ro :: .int .i64 l.length :: .int .i64 (i : Int) :: .top :: .top :: .top :: .top :: .top :: .top :: .top :: .top :: .top :: .top :: .top :: .top :: .top :: .top :: .top :: .top :: .top :: .top :: [])) (fun i => i ≤ l.length) (fun i => l.length - i) 0 (Nat.zero_le _) ?_
  intro i hi
  by_cases hlt : i < l.length
  · have hni := hn i hlt
    have h3 := bodies_take (nm := nm.map lowB) hlt
    have hat := fldAV_at hlt
    have hbl := bodies_len (nm.map lowB) (l.take i)
    rw [List.length_take] at hbl
    by_cases hc : (l.getD i ([], [])).1.map lowB = nm.map lowB
    · rw [if_pos hc] at h3
      have hh := And.intro hfl (And.intro hat hc)
      repeat' (first | refine go ?_ | (refine br (fun hc => ?_) (fun hc => ?_) <;> try (exfalso; omega)) | fail)
      · have e0 : bodies (nm.map lowB) (l.take i) = [] := List.length_eq_zero_iff.1 (by omega)
        refine again (i + 1) (by omega) (by omega) (.fgt_drop (by rw [h3, e0]; repeat (first | exact fgt_nil | refine fgt_top ?_ | refine fgt_same rfl ?_ | refine fgt_same (by simp) ?_)) hgl (Nat.le_refl _) hfit (by simp [belowL, AV.within]) rfl)
      · have e0 : ((bodies (nm.map lowB) (l.take (i + 1))).headD []) = ((bodies (nm.map lowB) (l.take i)).headD []) := by
          rw [h3]
          cases hb : bodies (nm.map lowB) (l.take i) with
          | nil => rw [hb] at hc; simp at hc
          | cons x xs => rfl
        refine again (i + 1) (by omega) (by omega) (.fgt_drop (by rw [e0, h3]; repeat (first | exact fgt_nil | refine fgt_top ?_ | refine fgt_same rfl ?_ | refine fgt_same (by simp) ?_)) hgl (Nat.le_refl _) hfit (by simp [belowL, AV.within]) rfl)
    · rw [if_neg hc, List.append_nil] at h3
      have hh := And.intro hfl (And.intro hat hc)
      repeat' (first | refine go ?_ | (refine br (fun hc => ?_) (fun hc => ?_) <;> try (exfalso; omega)) | fail)
      refine again (i + 1) (by omega) (by omega) (.fgt_drop (by rw [h3]; repeat (first | exact fgt_nil | refine fgt_top ?_ | refine fgt_same rfl ?_ | refine fgt_same (by simp) ?_)) hgl (Nat.le_refl _) hfit (by simp [belowL, AV.within]) rfl)
  · obtain rfl : i = l.length := by omega
    rw [List.take_length]
    repeat' (first | refine go ?_ | (refine br (fun hc => ?_) (fun hc => ?_) <;> try (exfalso; omega)) | fail)
    exact .now ⟨rfl, rfl⟩

end Go.Ab.Tryd
