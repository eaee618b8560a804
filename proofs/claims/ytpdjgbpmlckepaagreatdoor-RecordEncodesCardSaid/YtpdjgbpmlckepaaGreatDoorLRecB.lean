/- Walks: a record, read. -/
import Derived.Test.YtpdjgbpmlckepaaGreatDoorLRecA
import Derived.Test.YtpdjgbpmlckepaaGreatDoorSDec
import Derived.Test.YtpdjgbpmlckepaaGreatDoorLTake2
import Derived.Test.YtpdjgbpmlckepaaGreatDoorLEq
import Derived.Test.YtpdjgbpmlckepaaGreatDoorLBackA
import Derived.Test.YtpdjgbpmlckepaaGreatDoorLLaw15b
import Derived.Test.YtpdjgbpmlckepaaGreatDoorSNum
section
set_option linter.unusedSimpArgs false
set_option linter.unusedVariables false
set_option maxHeartbeats 8000000
set_option maxRecDepth 10000
namespace Go.Ab.Tryz
open Go Go.Ab Go.Proofs
attribute [local irreducible] W Wl Wop TrA WSeq WLoopS FPost DPost RPost WRound DK onEnd
attribute [local simp] belowL_bytesAV belowL_strsM belowL_appM belowL_fillL belowL_rep
variable {n0 : Nat} {w0 : World} {gl : Nat → List AV} {H : List AO}

theorem rnum_ok {a : Nat} {b : List UInt8} (hA : H[a]? = some (.cells [.sl b.length (bytesAV b) .ro])) (h8 : 8 ≤ b.length) (hb : b.length ≤ 1000000000) :
    AEnter (env n0 w0 gl) 79 [.ref a 0] H (fun y H' => y = .ret (.int .i64 (numF (b.take 8))) ∧ H' = H.set a (.cells [.sl (b.drop 8).length (bytesAV (b.drop 8)) .ro])) := by
  have ha := (List.getElem?_eq_some_iff.1 hA).1
  have htk : List.take 8 (bytesAV b) = bytesAV (b.take 8) := by simp [bytesAV]
  have hdr : List.drop 8 (bytesAV b) = bytesAV (b.drop 8) := by simp [bytesAV]
  have htl : (b.take 8).length = 8 := by rw [List.length_take]; omega
  have hdl : (b.drop 8).length = b.length - 8 := List.length_drop
  have hall : List.take b.length (bytesAV b) = bytesAV b := List.take_of_length_le (by rw [bytesAV_len]; exact Nat.le_refl _)
  have hite : ∀ (p : Prop) [Decidable p] (a : Tok), (if p then a else a) = a := fun p _ a => ite_self a
  have hs8 : (8 - 0 : Nat) = 8 := rfl
  rw [hdl]
  have hh := And.intro hA <| And.intro htk <| And.intro hdr <| And.intro htl <| And.intro hall hite
  refine enter (md := fun _ => 0) Tryz.func79 (fun hfit hgl => ?_)
  repeat' (first | refine go ?_ | (refine br (fun hc => ?_) (fun hc => ?_) <;> try (exfalso; omega)) | fail)
  refine loop0 (fun i : Nat => (.ref a 0 :: .top :: .int .i64 0 :: .int .i64 (numF ((b.take 8).take i)) :: .top :: .top :: .top :: .top :: .top :: .top :: .top :: .top :: .top :: .top :: .top :: .top :: .top :: .sl 8 (bytesAV (b.take 8)) .ro :: .int .i64 8 :: .int .i64 (i : Int) :: .top :: .top :: .top :: .top :: .top :: .top :: .top :: .top :: .top :: .top :: .top :: .top :: .top :: .top :: .top :: .top :: .top :: .top :: [])) (fun i => i ≤ 8) (fun i => 8 - i) 0 (by decide) ?_
  intro i hi
  by_cases hlt : i < 8
  · have h1 := bytes_hd (s := b.take 8) (i := i) (by omega)
    have e1 := numF_take (s := b.take 8) (i := i) (by omega)
    have hw1 : IntKind.i64.wrap (((b.take 8).getD i 0).toNat : Int) = (((b.take 8).getD i 0).toNat : Int) := wrap_i64 (by omega) (by have := ((b.take 8).getD i 0).toNat_lt; omega)
    have hm : min 8 64 = 8 := rfl
    have hh := And.intro h1 <| And.intro hw1 <| And.intro hm hh
    repeat' (first | refine go ?_ | (refine br (fun hc => ?_) (fun hc => ?_) <;> try (exfalso; omega)) | fail)
    rw [← e1]
    exact again (i + 1) (by omega)
  · obtain rfl : i = 8 := by omega
    rw [show (b.take 8).take 8 = b.take 8 from List.take_of_length_le (by omega)]
    repeat' (first | refine go ?_ | (refine br (fun hc => ?_) (fun hc => ?_) <;> try (exfalso; omega)) | fail)
    exact .now ⟨rfl, rfl⟩
theorem rnum_bad {a : Nat} {b : List UInt8} (hA : H[a]? = some (.cells [.sl b.length (bytesAV b) .ro])) (h8 : b.length < 8) :
    AEnter (env n0 w0 gl) 79 [.ref a 0] H (fun y H' => y = .panic (thrownR 160) ∧ H' = H) := by
  have ha := (List.getElem?_eq_some_iff.1 hA).1
  have hh := hA
  refine enter (md := fun _ => 0) Tryz.func79 (fun hfit hgl => ?_)
  repeat' (first | refine go ?_ | (refine br (fun hc => ?_) (fun hc => ?_) <;> try (exfalso; omega)) | fail)
  exact .now ⟨rfl, rfl⟩
theorem rtext_ok {a : Nat} {b : List UInt8} (hA : H[a]? = some (.cells [.sl b.length (bytesAV b) .ro])) (hc : CutOk b) (hb : b.length ≤ 1000000000) :
    AEnter (env n0 w0 gl) 80 [.ref a 0] H (fun y H' => y = .ret (.str (cutA b)) ∧ H' = H.set a (.cells [.sl (cutB b).length (bytesAV (cutB b)) .ro])) := by
  have ha := (List.getElem?_eq_some_iff.1 hA).1
  obtain ⟨n, c1, c2⟩ := cut_some hc
  have hT : ∀ H, Ctr (env n0 w0 gl) 129 [.sl b.length (bytesAV b) .ro] H True (.tup [.sl (cutA b).length (bytesAV (cutA b)) .ro, .sl (cutB b).length (bytesAV (cutB b)) .ro, .bool true]) H := fun H => ⟨fun _ => by
    have := (take_t (n0 := n0) (w0 := w0) (gl := gl) (H := H) b).call (by omega)
    unfold takeV at this
    rw [c1] at this
    simp only at this
    rw [c2]
    exact this⟩
  have hh := hA
  refine enter (md := fun _ => 0) Tryz.func80 (fun hfit hgl => ?_)
  repeat' (first | refine go ?_ | (refine br (fun hc => ?_) (fun hc => ?_) <;> try (exfalso; omega)) | fail)
  exact .now ⟨rfl, rfl⟩
theorem rtext_bad {a : Nat} {b : List UInt8} (hA : H[a]? = some (.cells [.sl b.length (bytesAV b) .ro])) (hc : ¬ CutOk b) (hb : b.length ≤ 1000000000) :
    AEnter (env n0 w0 gl) 80 [.ref a 0] H (fun y H' => y = .panic (thrownR 160) ∧ H' = H) := by
  have ha := (List.getElem?_eq_some_iff.1 hA).1
  have c1 : cut15R b = none := Classical.not_not.1 hc
  have hT := fun H => take_t (n0 := n0) (w0 := w0) (gl := gl) (H := H) b
  unfold takeV at hT
  rw [c1] at hT
  simp only at hT
  have hh := hA
  refine enter (md := fun _ => 0) Tryz.func80 (fun hfit hgl => ?_)
  repeat' (first | refine go ?_ | (refine br (fun hc => ?_) (fun hc => ?_) <;> try (exfalso; omega)) | fail)
  exact .now ⟨rfl, rfl⟩
/-- A record that has nothing. -/
def zeroAV (k : Int) (Z : List UInt8) : List AV := .int .i64 k :: .int .i64 0 :: .str [] :: .str [] :: .sl 0 [] .ro :: .int .i64 0 :: .sl 0 [] .ro :: .int .i64 0 :: (bytesAV Z ++ (.int .i64 0 :: .int .i64 0 :: .int .i64 0 :: (bytesAV Z ++ (bytesAV Z ++ [.str [], .str []]))))
def zeroAV1 (k : Int) (Z : List UInt8) : List AV := .int .i64 k :: .int .i64 0 :: .str [] :: .str [] :: .sl 0 [] .full :: .int .i64 0 :: .sl 0 [] .full :: .int .i64 0 :: (bytesAV Z ++ (.int .i64 0 :: .int .i64 0 :: .int .i64 0 :: (bytesAV Z ++ (bytesAV Z ++ [.str [], .str []]))))
theorem zero_weak (Z : List UInt8) (k : Int) : ∀ (g : Ghost) (i : Nat) (c : Value), VRel g ((zeroAV1 k Z).getD i .top) c → VRel g ((zeroAV k Z).getD i .top) c
  | g, 0, c, h => h
  | g, 1, c, h => h
  | g, 2, c, h => h
  | g, 3, c, h => h
  | g, 4, c, h => slRo h
  | g, 5, c, h => h
  | g, 6, c, h => slRo h
  | g, i + 7, c, h => h
theorem zshift {E : Env} {N : Nat} {ts : List AV} {ds : List ADef} {H : List AO} (k : Int) (Z : List UInt8) (x : AO) : Shift E N ts ds (H ++ [.cells (zeroAV1 0 Z), x, .cells (zeroAV1 k Z)]) ts (H ++ [.cells (zeroAV 0 Z), x, .cells (zeroAV k Z)]) := by
  have h1 := Shift.cells (E := E) (N := N) (ts := ts) (ds := ds) (H := H ++ [.cells (zeroAV1 0 Z), x, .cells (zeroAV1 k Z)]) H.length (xs := zeroAV1 0 Z) (ys := zeroAV 0 Z) (by rw [List.getElem?_append_right (Nat.le_refl _), Nat.sub_self]; rfl) rfl (fun g i c h => zero_weak Z 0 g i c h)
  rw [setE0] at h1
  simp only [List.set_cons_zero] at h1
  have h2 := Shift.cells (E := E) (N := N) (ts := ts) (ds := ds) (H := H ++ [.cells (zeroAV 0 Z), x, .cells (zeroAV1 k Z)]) (H.length + 2) (xs := zeroAV1 k Z) (ys := zeroAV k Z) (getE H _ 2) rfl (fun g i c h => zero_weak Z k g i c h)
  rw [setE] at h2
  simp only [List.set_cons_succ, List.set_cons_zero] at h2
  exact h1.trans h2
theorem app_facts2 {l : List UInt8} (h : l.length = 32) : (∀ X, List.take 101 (bytesAV l ++ X) = bytesAV l ++ List.take 69 X) ∧ (∀ X, List.take 66 (bytesAV l ++ X) = bytesAV l ++ List.take 34 X) ∧ (∀ X, List.take 34 (bytesAV l ++ X) = bytesAV l ++ List.take 2 X) ∧
    (∀ X, List.drop 101 (bytesAV l ++ X) = List.drop 69 X) ∧ (∀ X, List.drop 66 (bytesAV l ++ X) = List.drop 34 X) ∧ (∀ X, List.drop 34 (bytesAV l ++ X) = List.drop 2 X) ∧ (∀ a b : List AV, (a ++ b).all AV.one = (a.all AV.one && b.all AV.one)) ∧ min 32 32 = 32 := by
  have hb : (bytesAV l).length = 32 := by rw [bytesAV_len, h]
  refine ⟨fun X => ?_, fun X => ?_, fun X => ?_, fun X => ?_, fun X => ?_, fun X => ?_, fun a b => List.all_append, rfl⟩
  all_goals (first | rw [List.take_append, List.take_of_length_le (by omega), hb] | rw [List.drop_append, List.drop_eq_nil_of_le (by omega), hb, List.nil_append])
theorem app_facts3 {l : List UInt8} (h : l.length = 32) : (∀ X, List.take 33 (bytesAV l ++ X) = bytesAV l ++ List.take 1 X) ∧ (∀ X, List.take 99 (bytesAV l ++ X) = bytesAV l ++ List.take 67 X) ∧ (∀ X, List.take 100 (bytesAV l ++ X) = bytesAV l ++ List.take 68 X) ∧ (∀ X, List.take 65 (bytesAV l ++ X) = bytesAV l ++ List.take 33 X) ∧
    (∀ X, List.drop 100 (bytesAV l ++ X) = List.drop 68 X) ∧ (∀ X, List.drop 65 (bytesAV l ++ X) = List.drop 33 X) := by
  have hb : (bytesAV l).length = 32 := by rw [bytesAV_len, h]
  refine ⟨fun X => ?_, fun X => ?_, fun X => ?_, fun X => ?_, fun X => ?_, fun X => ?_⟩
  all_goals (first | rw [List.take_append, List.take_of_length_le (by omega), hb] | rw [List.drop_append, List.drop_eq_nil_of_le (by omega), hb, List.nil_append])
theorem read2_ok (b : List UInt8) (hb : b.length = 48) : AEnter (env n0 w0 gl) 43 [.int .i64 2, .sl 48 (bytesAV b) .ro] H (fun y H' => y = .ret (.agg (RecA.mk 2 ⟨0, [], [], [], 0, []⟩ (numF (b.take 8)) (b.drop 16) (numF ((b.drop 8).take 8)) 0 0 zero32 zero32 [] []).av) ∧ H' = H) := by
  have hz : zero32.length = 32 := rfl
  have n1 : ∀ x y, Ctr (env n0 w0 gl) 79 [.ref (H.length + 1) 0] (H ++ [.cells x, .cells [.sl 48 (bytesAV b) .ro], .cells y]) True (.int .i64 (numF (b.take 8))) (H ++ [.cells x, .cells [.sl 40 (bytesAV (b.drop 8)) .ro], .cells y]) := fun x y => .of fun _ => by
    have := rnum_ok (n0 := n0) (w0 := w0) (gl := gl) (H := H ++ [.cells x, .cells [.sl b.length (bytesAV b) .ro], .cells y]) (a := H.length + 1) (b := b) (getE H _ 1) (by omega) (by omega)
    rw [setE, hb, show (b.drop 8).length = 40 by rw [List.length_drop]; omega] at this
    exact this
  have n2 : ∀ x y, Ctr (env n0 w0 gl) 79 [.ref (H.length + 1) 0] (H ++ [.cells x, .cells [.sl 40 (bytesAV (b.drop 8)) .ro], .cells y]) True (.int .i64 (numF ((b.drop 8).take 8))) (H ++ [.cells x, .cells [.sl 32 (bytesAV (b.drop 16)) .ro], .cells y]) := fun x y => .of fun _ => by
    have e1 : (b.drop 8).length = 40 := by rw [List.length_drop]; omega
    have := rnum_ok (n0 := n0) (w0 := w0) (gl := gl) (H := H ++ [.cells x, .cells [.sl (b.drop 8).length (bytesAV (b.drop 8)) .ro], .cells y]) (a := H.length + 1) (b := b.drop 8) (getE H _ 1) (by omega) (by omega)
    rw [setE, e1, List.drop_drop, show (b.drop 16).length = 32 by rw [List.length_drop]; omega] at this
    exact this
  have hl16 : (b.drop 16).length = 32 := by rw [List.length_drop]; omega
  obtain ⟨f1, f2, f3, f4, f5, f6⟩ := app_facts hz
  obtain ⟨g1, g2, g3, g4, g5, g6⟩ := app_facts hl16
  have t32 : List.take 32 (bytesAV (b.drop 16)) = bytesAV (b.drop 16) := List.take_of_length_le (by rw [bytesAV_len, hl16]; decide)
  have hh := And.intro (app_facts2 hz) <| And.intro (app_facts2 hl16) <| And.intro hl16 <| And.intro hz <| And.intro f1 <| And.intro f2 <| And.intro f3 <| And.intro g1 <| And.intro g2 <| And.intro g3 t32
  refine enter (md := fun _ => 0) Tryz.func43 (fun hfit hgl => ?_)
  refine gos ?_
  refine wseq_normal ?_
  refine gos ?_
  refine wseq_normal ?_
  refine gos ?_
  refine wseq_normal ?_
  refine gos ?_
  refine wseq_shift (zshift (H := H) 2 zero32 _) ?_
  simp only [RecA.av, Msg.av, List.cons_append, List.nil_append, zeroAV, List.length_nil, List.map_nil, show bytesAV [] = [] from rfl]
  generalize zero32 = Z at *
  generalize numF (b.take 8) = p1 at *
  generalize numF ((b.drop 8).take 8) = p2 at *
  generalize b.drop 16 = b2 at *
  generalize b.drop 8 = b1 at *
  refine gos ?_
  refine wseq_normal ?_
  refine gos ?_
  refine wseq_normal ?_
  refine gos ?_
  refine wseq_normal ?_
  refine gos ?_
  refine wseq_normal ?_
  refine gos ?_
  refine wseq_normal ?_
  refine w_drawnP (fun X => X[H.length + 1]? = some (.cells [.sl 32 (bytesAV b2) .ro])) (by intro _ h; cases h) (by simp only [List.length_cons, List.length_nil, Nat.reduceAdd]; exact rfl) ?_
  refine goP ?_
  refine wseq_normal ?_
  repeat' (first | refine go ?_ | (refine br (fun hc => ?_) (fun hc => ?_) <;> try (exfalso; omega)) | fail)
  exact .junkd ⟨rfl, rfl⟩

theorem read1_ok (b : List UInt8) (m : Msg) (hD : ∀ H, Ctr (env n0 w0 gl) 81 [.sl b.length (bytesAV b) .ro] H True (.tup [.agg m.av, .int .i64 0]) H) : AEnter (env n0 w0 gl) 43 [.int .i64 1, .sl b.length (bytesAV b) .ro] H (fun y H' => y = .ret (.agg (RecA.mk 1 m 0 zero32 0 0 0 zero32 zero32 [] []).av) ∧ H' = H) := by
  have hz : zero32.length = 32 := rfl
  obtain ⟨f1, f2, f3, f4, f5, f6⟩ := app_facts hz
  have hh := And.intro (app_facts2 hz) <| And.intro hz <| And.intro f1 <| And.intro f2 f3
  obtain ⟨id, cls, fro, to, at_, body⟩ := m
  simp only [Msg.av] at hD
  refine enter (md := fun _ => 0) Tryz.func43 (fun hfit hgl => ?_)
  refine gos ?_
  refine wseq_normal ?_
  refine gos ?_
  refine wseq_normal ?_
  refine gos ?_
  refine wseq_normal ?_
  refine gos ?_
  refine wseq_shift (zshift (H := H) 1 zero32 _) ?_
  simp only [RecA.av, Msg.av, List.cons_append, List.nil_append, zeroAV, List.length_nil, List.map_nil, show bytesAV [] = [] from rfl]
  generalize zero32 = Z at *
  repeat' (first | refine go ?_ | (refine br (fun hc => ?_) (fun hc => ?_) <;> try (exfalso; omega)) | fail)
  exact .junkd ⟨rfl, rfl⟩
theorem read3_ok (b : List UInt8) (hb : b.length = 72) (sg ct : Int) (root prev : List UInt8) (hr : root.length = 32) (hp : prev.length = 32) (hV : sealV b = .tup [.agg (sealAV sg ct root prev), .int .i64 0]) : AEnter (env n0 w0 gl) 43 [.int .i64 3, .sl 72 (bytesAV b) .ro] H (fun y H' => y = .ret (.agg (RecA.mk 3 ⟨0, [], [], [], 0, []⟩ 0 zero32 0 sg ct root prev [] []).av) ∧ H' = H) := by
  have hz : zero32.length = 32 := rfl
  have hP : ∀ H, Ctr (env n0 w0 gl) 70 [.sl 72 (bytesAV b) .ro] H True (.tup [.agg (sealAV sg ct root prev), .int .i64 0]) H := fun H => .of fun _ => by
    have := sealParse_e (n0 := n0) (w0 := w0) (gl := gl) (H := H) b (by omega)
    rwa [hb, hV] at this
  obtain ⟨f1, f2, f3, f4, f5, f6⟩ := app_facts hz
  obtain ⟨g1, g2, g3, g4, g5, g6⟩ := app_facts hr
  obtain ⟨k1, k2, k3, k4, k5, k6⟩ := app_facts hp
  have o2 : (bytesAV root ++ bytesAV prev).length = 64 := by rw [List.length_append, bytesAV_len, bytesAV_len, hr, hp]
  have hh := And.intro (app_facts3 hz) <| And.intro f4 <| And.intro (app_facts2 hz) <| And.intro (app_facts2 hr) <| And.intro (app_facts2 hp) <| And.intro hz <| And.intro hr <| And.intro hp <| And.intro o2 <| And.intro f1 <| And.intro f2 <| And.intro f3 <| And.intro f5 <| And.intro f6 <| And.intro g1 <| And.intro g2 <| And.intro g5 <| And.intro g6 <| And.intro k1 k2
  simp only [sealAV] at hP
  refine enter (md := fun _ => 0) Tryz.func43 (fun hfit hgl => ?_)
  refine gos ?_
  refine wseq_normal ?_
  refine gos ?_
  refine wseq_normal ?_
  refine gos ?_
  refine wseq_normal ?_
  refine gos ?_
  refine wseq_shift (zshift (H := H) 3 zero32 _) ?_
  simp only [RecA.av, Msg.av, List.cons_append, List.nil_append, zeroAV, List.length_nil, List.map_nil, show bytesAV [] = [] from rfl]
  generalize zero32 = Z at *
  repeat' (first | refine go ?_ | (refine br (fun hc => ?_) (fun hc => ?_) <;> try (exfalso; omega)) | fail)
  exact .junkd ⟨rfl, rfl⟩
theorem read4_ok (b : List UInt8) (hb : b.length ≤ 1000000000) (h1 : CutOk b) (h2 : CutOk (cutB b)) : AEnter (env n0 w0 gl) 43 [.int .i64 4, .sl b.length (bytesAV b) .ro] H (fun y H' => y = .ret (.agg (RecA.mk 4 ⟨0, [], [], [], 0, []⟩ 0 zero32 0 0 0 zero32 zero32 (cutA b) (cutA (cutB b))).av) ∧ H' = H) := by
  have hz : zero32.length = 32 := rfl
  have hbl := cutB_len b
  have n1 : ∀ x y, Ctr (env n0 w0 gl) 80 [.ref (H.length + 1) 0] (H ++ [.cells x, .cells [.sl b.length (bytesAV b) .ro], .cells y]) True (.str (cutA b)) (H ++ [.cells x, .cells [.sl (cutB b).length (bytesAV (cutB b)) .ro], .cells y]) := fun x y => .of fun _ => by
    have := rtext_ok (n0 := n0) (w0 := w0) (gl := gl) (H := H ++ [.cells x, .cells [.sl b.length (bytesAV b) .ro], .cells y]) (a := H.length + 1) (b := b) (getE H _ 1) h1 hb
    rw [setE] at this
    exact this
  have n2 : ∀ x y, Ctr (env n0 w0 gl) 80 [.ref (H.length + 1) 0] (H ++ [.cells x, .cells [.sl (cutB b).length (bytesAV (cutB b)) .ro], .cells y]) True (.str (cutA (cutB b))) (H ++ [.cells x, .cells [.sl (cutB (cutB b)).length (bytesAV (cutB (cutB b))) .ro], .cells y]) := fun x y => .of fun _ => by
    have := rtext_ok (n0 := n0) (w0 := w0) (gl := gl) (H := H ++ [.cells x, .cells [.sl (cutB b).length (bytesAV (cutB b)) .ro], .cells y]) (a := H.length + 1) (b := cutB b) (getE H _ 1) h2 (by omega)
    rw [setE] at this
    exact this
  obtain ⟨f1, f2, f3, f4, f5, f6⟩ := app_facts hz
  have hh := And.intro (app_facts3 hz) <| And.intro (app_facts2 hz) <| And.intro hz <| And.intro f1 <| And.intro f2 <| And.intro f3 <| And.intro f4 <| And.intro f5 f6
  have hl1 : (cutA b).length = (cutA b).length := rfl
  generalize cutA (cutB b) = w at *
  generalize hc1 : cutA b = nm at *
  generalize cutB (cutB b) = b2 at *
  generalize cutB b = b1 at *
  refine enter (md := fun _ => 0) Tryz.func43 (fun hfit hgl => ?_)
  refine gos ?_
  refine wseq_normal ?_
  refine gos ?_
  refine wseq_normal ?_
  refine gos ?_
  refine wseq_normal ?_
  refine gos ?_
  refine wseq_shift (zshift (H := H) 4 zero32 _) ?_
  simp only [RecA.av, Msg.av, List.cons_append, List.nil_append, zeroAV, List.length_nil, List.map_nil, show bytesAV [] = [] from rfl]
  generalize zero32 = Z at *
  repeat' (first | refine go ?_ | (refine br (fun hc => ?_) (fun hc => ?_) <;> try (exfalso; omega)) | fail)
  exact .junkd ⟨rfl, rfl⟩
theorem read5_ok (b : List UInt8) (hb : b.length ≤ 1000000000) (h1 : CutOk b) : AEnter (env n0 w0 gl) 43 [.int .i64 5, .sl b.length (bytesAV b) .ro] H (fun y H' => y = .ret (.agg (RecA.mk 5 ⟨0, [], [], [], 0, []⟩ 0 zero32 0 0 0 zero32 zero32 (cutA b) []).av) ∧ H' = H) := by
  have hz : zero32.length = 32 := rfl
  have n1 : ∀ x y, Ctr (env n0 w0 gl) 80 [.ref (H.length + 1) 0] (H ++ [.cells x, .cells [.sl b.length (bytesAV b) .ro], .cells y]) True (.str (cutA b)) (H ++ [.cells x, .cells [.sl (cutB b).length (bytesAV (cutB b)) .ro], .cells y]) := fun x y => .of fun _ => by
    have := rtext_ok (n0 := n0) (w0 := w0) (gl := gl) (H := H ++ [.cells x, .cells [.sl b.length (bytesAV b) .ro], .cells y]) (a := H.length + 1) (b := b) (getE H _ 1) h1 hb
    rw [setE] at this
    exact this
  obtain ⟨f1, f2, f3, f4, f5, f6⟩ := app_facts hz
  have hh := And.intro (app_facts3 hz) <| And.intro (app_facts2 hz) <| And.intro hz <| And.intro f1 <| And.intro f2 <| And.intro f3 <| And.intro f4 <| And.intro f5 f6
  generalize hc1 : cutA b = nm at *
  generalize cutB b = b1 at *
  refine enter (md := fun _ => 0) Tryz.func43 (fun hfit hgl => ?_)
  refine gos ?_
  refine wseq_normal ?_
  refine gos ?_
  refine wseq_normal ?_
  refine gos ?_
  refine wseq_normal ?_
  refine gos ?_
  refine wseq_shift (zshift (H := H) 5 zero32 _) ?_
  simp only [RecA.av, Msg.av, List.cons_append, List.nil_append, zeroAV, List.length_nil, List.map_nil, show bytesAV [] = [] from rfl]
  generalize zero32 = Z at *
  repeat' (first | refine go ?_ | (refine br (fun hc => ?_) (fun hc => ?_) <;> try (exfalso; omega)) | fail)
  exact .junkd ⟨rfl, rfl⟩

end Go.Ab.Tryz

end

section
set_option linter.unusedSimpArgs false
set_option linter.unusedVariables false
set_option maxHeartbeats 8000000
set_option maxRecDepth 10000
namespace Go.Ab.Tryz
open Go Go.Ab Go.Proofs
attribute [local irreducible] W Wl Wop TrA WSeq WLoopS FPost DPost RPost WRound DK onEnd
attribute [local simp] belowL_bytesAV belowL_strsM belowL_appM belowL_fillL belowL_rep
variable {n0 : Nat} {w0 : World} {gl : Nat → List AV} {H : List AO}

theorem recDec1_ok [ht : Tab10 n0 w0] (c : UInt8) (bd : List UInt8) (hb : bd.length ≤ 140737488350000) (x : RecA) (hx : x.Small) (hE : x.Ok) (he : x.enc = c :: bd) (hk : x.kind = (c.toNat : Int)) (zs : List AV) (hz : zs.length = 109)
    (hR : ∀ H, Ctr (env n0 w0 gl) 43 [.int .i64 c.toNat, .sl bd.length (bytesAV bd) .ro] H True (.agg x.av) H) :
    AEnter (env n0 w0 gl) 41 [.ref H.length 0, .ref (H.length + 1) 0] (H ++ [.cells [.sl (bd.length + 1) (bytesAV (c :: bd)) .ro], .cells zs, .cells [.int .i64 0]])
      (fun y H' => y = .ret (.tup []) ∧ H' = H ++ [.cells [.sl (bd.length + 1) (bytesAV (c :: bd)) .ro], .cells x.av, .cells [.int .i64 0]]) := by
  have hxb : x.bytes = bd := by unfold RecA.enc at he; injection he
  have hen : ∀ H, Ctr (env n0 w0 gl) 11 [.agg x.av] H True (.tup [.sl (bd.length + 1) (bytesAV (c :: bd)) .ro, .int .i64 0]) H := fun H => .of fun _ => by
    have := recEncode_ok (n0 := n0) (w0 := w0) (gl := gl) (H := H) x hx (by rw [hxb]; omega) hE
    rw [he, List.length_cons] at this
    exact this
  have hq : ∀ H, Ctr (env n0 w0 gl) 44 [.sl (bd.length + 1) (bytesAV (c :: bd)) .ro, .sl (bd.length + 1) (bytesAV (c :: bd)) .ro] H True (.bool true) H := fun H => ⟨fun _ => by
    have := (equal_t (n0 := n0) (w0 := w0) (gl := gl) (H := H) (c :: bd) (c :: bd) .ro .ro).call trivial
    rwa [beq_self_eq_true] at this⟩
  have h1 := recAV_len hx
  have h2 : List.take 109 x.av = x.av := List.take_of_length_le (by omega)
  have h5 : x.av.all AV.one = true := by simp [RecA.av, Msg.av, AV.one, bytesAV_one, List.all_append]
  have h6 : List.drop 109 zs = [] := List.drop_eq_nil_of_le (by omega)
  have hw1 : IntKind.i64.wrap (c.toNat : Int) = (c.toNat : Int) := wrap_i64 (by omega) (by have := c.toNat_lt; omega)
  have e1 : bytesAV (c :: bd) = .int .u8 c.toNat :: bytesAV bd := rfl
  have hN : bd.length + 1 - 1 = bd.length := rfl
  have hta : List.take bd.length (bytesAV bd) = bytesAV bd := List.take_of_length_le (by rw [bytesAV_len]; exact Nat.le_refl _)
  generalize x.av = A at *
  rw [e1] at hq hen ⊢
  have hh := And.intro h1 <| And.intro h2 <| And.intro h5 <| And.intro h6 <| And.intro hw1 <| And.intro hN <| And.intro hta hz
  refine enter (md := fun _ => 0) Tryz.func41 (fun hfit hgl => ?_)
  repeat' (first | refine go ?_ | (refine br (fun hc => ?_) (fun hc => ?_) <;> try (exfalso; omega)) | fail)
  exact .now ⟨rfl, rfl⟩
theorem recDecode_ok [ht : Tab10 n0 w0] (c : UInt8) (bd : List UInt8) (hb : bd.length ≤ 140737488350000) (x : RecA) (hx : x.Small) (hE : x.Ok) (he : x.enc = c :: bd) (hk : x.kind = (c.toNat : Int))
    (hR : ∀ H, Ctr (env n0 w0 gl) 43 [.int .i64 c.toNat, .sl bd.length (bytesAV bd) .ro] H True (.agg x.av) H) :
    AEnter (env n0 w0 gl) 15 [.sl (bd.length + 1) (bytesAV (c :: bd)) .ro] H (fun y H' => y = .ret (.tup [.agg x.av, .int .i64 0]) ∧ H' = H) := by
  have h1 := fun zs hz => recDec1_ok (n0 := n0) (w0 := w0) (gl := gl) (H := H) c bd hb x hx hE he hk zs hz hR
  have h2 := recAV_len hx
  have h3 : List.take 109 x.av = x.av := List.take_of_length_le (by omega)
  have h4 : List.drop 109 x.av = [] := List.drop_eq_nil_of_le (by omega)
  have h5 : x.av.all AV.one = true := by simp [RecA.av, Msg.av, AV.one, bytesAV_one, List.all_append]
  generalize bytesAV (c :: bd) = B at *
  have h6 : List.drop 0 x.av = x.av := rfl
  have hh := And.intro h2 <| And.intro h3 <| And.intro h4 h5
  refine enter (md := fun _ => 0) Tryz.func15 (fun hfit hgl => ?_)
  refine gos ?_
  refine wseq_normal ?_
  repeat' (first | refine go ?_ | (refine br (fun hc => ?_) (fun hc => ?_) <;> try (exfalso; omega)) | fail)
  ((with_reducible apply wop_call); (· rfl); (· rfl); (· (simp only [AAct.ev, List.getD_cons_zero, List.getD_cons_succ, constAV, env_gl]; try exact rfl)); (· (simp only [evCallArgs, List.map_cons, List.map_nil, List.nil_append, List.append_nil, List.cons_append, Array.toList, List.toList_toArray, AAct.ev, List.getD_cons_zero, List.getD_cons_succ, constAV, env_gl]; try exact rfl)))
  refine ((rec_caught_t (R := fun y H' => y = .ret (.int .i64 0) ∧ H' = H ++ [.cells [.sl (bd.length + 1) B .ro], .cells x.av, .cells [.int .i64 0]]) _ [] _ ?_).call).mono ?_
  · intro hf2
    rw [List.append_assoc]
    refine (h1 _ rfl).call.mono ?_
    rintro x H' ⟨rfl, rfl⟩
    exact ⟨by simp, .inl ⟨rfl, .now ⟨rfl, rfl⟩⟩⟩
  · rintro x H' ⟨rfl, rfl⟩
    repeat' (first | refine go ?_ | (refine br (fun hc => ?_) (fun hc => ?_) <;> try (exfalso; omega)) | fail)
    exact .junkd ⟨rfl, rfl⟩

end Go.Ab.Tryz

end

section
set_option linter.unusedSimpArgs false
set_option linter.unusedVariables false
set_option maxHeartbeats 8000000
set_option maxRecDepth 10000
namespace Go.Ab.Tryz
open Go Go.Ab Go.Proofs
attribute [local irreducible] W Wl Wop TrA WSeq WLoopS FPost DPost RPost WRound DK onEnd
attribute [local simp] belowL_bytesAV belowL_strsM belowL_appM belowL_fillL belowL_rep
variable {n0 : Nat} {w0 : World} {gl : Nat → List AV} {H : List AO}

def msg0 : Msg := ⟨0, [], [], [], 0, []⟩
theorem msg0_small : msg0.Small := ⟨by decide, by decide, fun i hi => by simp [msg0] at hi, by decide, by decide⟩
/-- A record with nothing but what its kind has. -/
def RecA.norm (r : RecA) : RecA :=
  if r.kind = 1 then ⟨1, r.m, 0, zero32, 0, 0, 0, zero32, zero32, [], []⟩ else if r.kind = 2 then ⟨2, msg0, r.pid, r.leaf, r.pat, 0, 0, zero32, zero32, [], []⟩
  else if r.kind = 3 then ⟨3, msg0, 0, zero32, 0, r.seg, r.count, r.root, r.prev, [], []⟩ else if r.kind = 4 then ⟨4, msg0, 0, zero32, 0, 0, 0, zero32, zero32, r.name, r.who⟩
  else ⟨5, msg0, 0, zero32, 0, 0, 0, zero32, zero32, r.name, []⟩
theorem norm_ok {r : RecA} (hr : r.Small) (hE : r.Ok) : r.norm.Small ∧ r.norm.Ok ∧ r.norm.enc = r.enc ∧ r.norm.kind = r.kind := by
  obtain ⟨kind, m, pid, leaf, pat, seg, count, root, prev, name, who⟩ := r
  obtain ⟨h1, h2, h3, h4, h5, h6⟩ := hr
  simp only at h1 h2 h3 h4 h5 h6
  unfold RecA.Ok at hE
  simp only at hE
  have z : zero32.length = 32 := rfl
  rcases hE with ⟨rfl, h⟩ | ⟨rfl, h⟩ | ⟨rfl, h⟩ | ⟨rfl, h⟩ | ⟨rfl, h⟩
  · exact ⟨⟨z, z, z, h4, Nat.zero_le _, Nat.zero_le _⟩, .inl ⟨rfl, h⟩, rfl, rfl⟩
  · exact ⟨⟨h1, z, z, msg0_small, Nat.zero_le _, Nat.zero_le _⟩, .inr (.inl ⟨rfl, h⟩), rfl, rfl⟩
  · exact ⟨⟨z, h2, h3, msg0_small, Nat.zero_le _, Nat.zero_le _⟩, .inr (.inr (.inl ⟨rfl, h⟩)), rfl, rfl⟩
  · exact ⟨⟨z, z, z, msg0_small, h5, h6⟩, .inr (.inr (.inr (.inl ⟨rfl, h⟩))), rfl, rfl⟩
  · exact ⟨⟨z, z, z, msg0_small, h5, Nat.zero_le _⟩, .inr (.inr (.inr (.inr ⟨rfl, h⟩))), rfl, rfl⟩
theorem recBytes_len {r : RecA} (hr : r.Small) (hE : r.Ok) : r.bytes.length ≤ 140737488350000 := by
  unfold RecA.bytes
  rcases hE with ⟨hk, h⟩ | ⟨hk, h⟩ | ⟨hk, h⟩ | ⟨hk, h⟩ | ⟨hk, h⟩
  · rw [if_pos hk]
    exact enc_bound h.1 h.2.2.2 (by have := h.2.2.1; omega) (by have := hr.msg.1; omega)
  · rw [if_neg (by omega), if_pos hk]
    simp only [List.length_append, be_len, hr.leaf]; decide
  · rw [if_neg (by omega), if_neg (by omega), if_pos hk]
    simp only [List.length_append, be_len, hr.root, hr.prev]; decide
  · rw [if_neg (by omega), if_neg (by omega), if_neg (by omega), if_pos hk]
    have h1 := hr.name
    have h2 := hr.who
    have d1 := Lib.decDigits_length r.name.length
    have d2 := Lib.decDigits_length r.who.length
    have e1 : Lib.nDigits r.name.length ≤ 19 := nDigits_le (by omega) (by omega)
    have e2 : Lib.nDigits r.who.length ≤ 19 := nDigits_le (by omega) (by omega)
    simp only [putL, List.flatMap_cons, List.flatMap_nil, List.append_nil, List.length_append, putF_len]
    omega
  · rw [if_neg (by omega), if_neg (by omega), if_neg (by omega), if_neg (by omega)]
    have h1 := hr.name
    have d1 := Lib.decDigits_length r.name.length
    have e1 : Lib.nDigits r.name.length ≤ 19 := nDigits_le (by omega) (by omega)
    simp only [putL, List.flatMap_cons, List.flatMap_nil, List.append_nil, List.length_append, putF_len]
    omega
theorem recDecode_enc [ht : Tab10 n0 w0] (r : RecA) (hr : r.Small) (hE : r.Ok) (hp : r.pid ≤ 9223372036854775807) (hpa : r.pat ≤ 9223372036854775807) : AEnter (env n0 w0 gl) 15 [.sl r.enc.length (bytesAV r.enc) .ro] H (fun y H' => y = .ret (.tup [.agg r.norm.av, .int .i64 0]) ∧ H' = H) := by
  have hk : 1 ≤ r.kind ∧ r.kind ≤ 5 := by
    rcases hE with ⟨h, _⟩ | ⟨h, _⟩ | ⟨h, _⟩ | ⟨h, _⟩ | ⟨h, _⟩ <;> omega
  have hc : ((UInt8.ofNat r.kind.toNat).toNat : Int) = r.kind := by rw [UInt8.toNat_ofNat']; omega
  obtain ⟨n1, n2, n3, n4⟩ := norm_ok hr hE
  have key := fun hR => recDecode_ok (n0 := n0) (w0 := w0) (gl := gl) (H := H) (UInt8.ofNat r.kind.toNat) r.bytes (recBytes_len hr hE) r.norm n1 n2 n3 (by rw [n4, hc]) hR
  refine key (fun H => ?_)
  rw [hc]
  have hE2 := hE
  rcases hE2 with ⟨hk, h⟩ | ⟨hk, h⟩ | ⟨hk, h⟩ | ⟨hk, h⟩ | ⟨hk, h⟩
  · have hb : r.bytes = r.m.enc := by unfold RecA.bytes; rw [if_pos hk]
    have hn : r.norm = ⟨1, r.m, 0, zero32, 0, 0, 0, zero32, zero32, [], []⟩ := by unfold RecA.norm; rw [if_pos hk]
    rw [hb, hn, hk]
    exact .of fun _ => read1_ok r.m.enc r.m (fun H => .of fun _ => decode_enc r.m hr.msg h)
  · have hb : r.bytes = be 8 r.pid ++ (be 8 r.pat ++ r.leaf) := by unfold RecA.bytes; rw [if_neg (by omega), if_pos hk]
    have hn : r.norm = ⟨2, msg0, r.pid, r.leaf, r.pat, 0, 0, zero32, zero32, [], []⟩ := by unfold RecA.norm; rw [if_neg (by omega), if_pos hk]
    have h48 : r.bytes.length = 48 := by rw [hb]; simp only [List.length_append, be_len, hr.leaf]
    have d8 : r.bytes.drop 8 = be 8 r.pat ++ r.leaf := by rw [hb]; exact List.drop_left' (be_len _ _)
    have e1 : numF (r.bytes.take 8) = r.pid := by rw [hb, List.take_left' (be_len _ _)]; exact numF_be8 (by omega) hp
    have e2 : numF ((r.bytes.drop 8).take 8) = r.pat := by rw [d8, List.take_left' (be_len _ _)]; exact numF_be8 (by omega) hpa
    have e3 : r.bytes.drop 16 = r.leaf := by rw [show (16 : Nat) = 8 + 8 from rfl, ← List.drop_drop, d8]; exact List.drop_left' (be_len _ _)
    have := read2_ok (n0 := n0) (w0 := w0) (gl := gl) (H := H) r.bytes h48
    rw [e1, e2, e3] at this
    rw [hn, hk, h48]
    exact .of fun _ => this
  · have hb : r.bytes = sealS r.seg r.count r.root r.prev := by unfold RecA.bytes sealS; rw [if_neg (by omega), if_neg (by omega), if_pos hk]
    have hn : r.norm = ⟨3, msg0, 0, zero32, 0, r.seg, r.count, r.root, r.prev, [], []⟩ := by unfold RecA.norm; rw [if_neg (by omega), if_neg (by omega), if_pos hk]
    have h72 : r.bytes.length = 72 := by rw [hb]; exact (sealS_parts hr.root hr.prev).1
    have hv : sealV r.bytes = .tup [.agg (sealAV r.seg r.count r.root r.prev), .int .i64 0] := by
      rw [hb, sealV_of hr.root hr.prev]
      obtain ⟨a, b, c, d⟩ := h
      rw [a, b, tf_true ⟨c, d⟩]; rfl
    rw [hn, hk, h72]
    exact .of fun _ => read3_ok r.bytes h72 r.seg r.count r.root r.prev hr.root hr.prev hv
  · have hb : r.bytes = putL [r.name, r.who] := by unfold RecA.bytes; rw [if_neg (by omega), if_neg (by omega), if_neg (by omega), if_pos hk]
    have hn : r.norm = ⟨4, msg0, 0, zero32, 0, 0, 0, zero32, zero32, r.name, r.who⟩ := by unfold RecA.norm; rw [if_neg (by omega), if_neg (by omega), if_neg (by omega), if_pos hk]
    have hwl : r.who.length ≤ 320 := by
      rcases h.2.2.1 with h | h
      · omega
      · exact mailbox_len h
    have hnl : r.name.length ≤ 30 := h.2.1
    have c1 := cut_put r.name (putF r.who ++ []) (by omega)
    have c2 := cut_put r.who [] (by omega)
    have hb2 : r.bytes = putF r.name ++ (putF r.who ++ []) := by rw [hb]; simp [putL]
    rw [← hb2] at c1
    obtain ⟨c11, c12, c13⟩ := c1
    obtain ⟨c21, c22, c23⟩ := c2
    have d1 := Lib.decDigits_length r.name.length
    have d2 := Lib.decDigits_length r.who.length
    have e1 : Lib.nDigits r.name.length ≤ 19 := nDigits_le (by omega) (by omega)
    have e2 : Lib.nDigits r.who.length ≤ 19 := nDigits_le (by omega) (by omega)
    have hbl : r.bytes.length ≤ 1000000000 := by
      rw [hb2]; simp only [List.append_nil, List.length_append, putF_len]; omega
    have := read4_ok (n0 := n0) (w0 := w0) (gl := gl) (H := H) r.bytes hbl c11 (by rw [c13]; exact c21)
    rw [c13, c12, c22] at this
    rw [hn, hk]
    exact .of fun _ => this
  · have hb : r.bytes = putL [r.name] := by unfold RecA.bytes; rw [if_neg (by omega), if_neg (by omega), if_neg (by omega), if_neg (by omega)]
    have hn : r.norm = ⟨5, msg0, 0, zero32, 0, 0, 0, zero32, zero32, r.name, []⟩ := by unfold RecA.norm; rw [if_neg (by omega), if_neg (by omega), if_neg (by omega), if_neg (by omega)]
    have hnl : r.name.length ≤ 30 := h.2.1
    have c1 := cut_put r.name [] (by omega)
    have hb2 : r.bytes = putF r.name ++ [] := by rw [hb]; simp [putL]
    rw [← hb2] at c1
    obtain ⟨c11, c12, c13⟩ := c1
    have d1 := Lib.decDigits_length r.name.length
    have e1 : Lib.nDigits r.name.length ≤ 19 := nDigits_le (by omega) (by omega)
    have hbl : r.bytes.length ≤ 1000000000 := by
      rw [hb2]; simp only [List.append_nil, List.length_append, putF_len]; omega
    have := read5_ok (n0 := n0) (w0 := w0) (gl := gl) (H := H) r.bytes hbl c11
    rw [c12] at this
    rw [hn, hk]
    exact .of fun _ => this

theorem aggW {g : Ghost} {xs ys : List AV} {c : Value} (hl : ys.length = xs.length) (h : ∀ i c, VRel g (xs.getD i .top) c → VRel g (ys.getD i .top) c) (r : VRel g (.agg xs) c) : VRel g (.agg ys) c := by
  cases r with
  | agg _ cs h1 h2 => exact .agg _ _ (h1.trans hl.symm) (fun i => h i _ (h2 i))
def holdA : RecA := ⟨4, msg0, 0, zero32, 0, 0, 0, zero32, zero32, [97], []⟩
theorem holdA_ok : holdA.Small ∧ holdA.Ok ∧ holdA.enc = [4, 49, 58, 97, 44, 48, 58, 44] ∧ holdA.norm = holdA := by
  refine ⟨⟨rfl, rfl, rfl, msg0_small, by decide, by decide⟩, .inr (.inr (.inr (.inl ⟨rfl, ⟨by decide, by decide, .inl rfl, ?_⟩⟩))), ?_, rfl⟩
  · intro i hi
    have : i = 0 := by have : i < 1 := hi; omega
    subst this
    exact .inr (.inr (by decide))
  · have e1 : Lib.decDigits 1 = [49] := by rw [sn_unfold]; rfl
    have e0 : Lib.decDigits 0 = [48] := by rw [sn_unfold]; rfl
    show UInt8.ofNat 4 :: putL [[97], []] = _
    simp only [putL, List.flatMap_cons, List.flatMap_nil, putF, List.length_cons, List.length_nil, Nat.zero_add, e1, e0]
    rfl
def holdL : List AV := [.int .i64 4, .int .i64 0, .str [], .str [], .sl 0 [] .full, .int .i64 0, .sl 0 [] .full, .int .i64 0, .int .u8 0, .int .u8 0, .int .u8 0, .int .u8 0, .int .u8 0, .int .u8 0, .int .u8 0, .int .u8 0, .int .u8 0, .int .u8 0, .int .u8 0, .int .u8 0, .int .u8 0, .int .u8 0, .int .u8 0, .int .u8 0, .int .u8 0, .int .u8 0, .int .u8 0, .int .u8 0, .int .u8 0, .int .u8 0, .int .u8 0, .int .u8 0, .int .u8 0, .int .u8 0, .int .u8 0, .int .u8 0, .int .u8 0, .int .u8 0, .int .u8 0, .int .u8 0, .int .i64 0, .int .i64 0, .int .i64 0, .int .u8 0, .int .u8 0, .int .u8 0, .int .u8 0, .int .u8 0, .int .u8 0, .int .u8 0, .int .u8 0, .int .u8 0, .int .u8 0, .int .u8 0, .int .u8 0, .int .u8 0, .int .u8 0, .int .u8 0, .int .u8 0, .int .u8 0, .int .u8 0, .int .u8 0, .int .u8 0, .int .u8 0, .int .u8 0, .int .u8 0, .int .u8 0, .int .u8 0, .int .u8 0, .int .u8 0, .int .u8 0, .int .u8 0, .int .u8 0, .int .u8 0, .int .u8 0, .int .u8 0, .int .u8 0, .int .u8 0, .int .u8 0, .int .u8 0, .int .u8 0, .int .u8 0, .int .u8 0, .int .u8 0, .int .u8 0, .int .u8 0, .int .u8 0, .int .u8 0, .int .u8 0, .int .u8 0, .int .u8 0, .int .u8 0, .int .u8 0, .int .u8 0, .int .u8 0, .int .u8 0, .int .u8 0, .int .u8 0, .int .u8 0, .int .u8 0, .int .u8 0, .int .u8 0, .int .u8 0, .int .u8 0, .int .u8 0, .int .u8 0, .int .u8 0, .str [97], .str []]
theorem holdL_weak (g : Ghost) (c : Value) (r : VRel g (.agg holdL) c) : VRel g (.agg holdA.av) c :=
  aggW (xs := holdL) (ys := holdA.av) rfl (fun i c h => match i, h with
        | 0, h => h
        | 1, h => h
        | 2, h => h
        | 3, h => h
        | 4, h => slRo h
        | 5, h => h
        | 6, h => slRo h
        | i + 7, h => h) r
theorem rawake_e [ht : Tab10 n0 w0] : AEnter (env n0 w0 gl) 9 [] H (fun y H' => y = .ret (.bool true) ∧ H' = H) := by
  obtain ⟨h1, h2, h3, h4⟩ := holdA_ok
  have hen : ∀ H, Ctr (env n0 w0 gl) 11 [.agg [.int .i64 4, .int .i64 0, .str [], .str [], .sl 0 [] .full, .int .i64 0, .sl 0 [] .full, .int .i64 0, .int .u8 0, .int .u8 0, .int .u8 0, .int .u8 0, .int .u8 0, .int .u8 0, .int .u8 0, .int .u8 0, .int .u8 0, .int .u8 0, .int .u8 0, .int .u8 0, .int .u8 0, .int .u8 0, .int .u8 0, .int .u8 0, .int .u8 0, .int .u8 0, .int .u8 0, .int .u8 0, .int .u8 0, .int .u8 0, .int .u8 0, .int .u8 0, .int .u8 0, .int .u8 0, .int .u8 0, .int .u8 0, .int .u8 0, .int .u8 0, .int .u8 0, .int .u8 0, .int .i64 0, .int .i64 0, .int .i64 0, .int .u8 0, .int .u8 0, .int .u8 0, .int .u8 0, .int .u8 0, .int .u8 0, .int .u8 0, .int .u8 0, .int .u8 0, .int .u8 0, .int .u8 0, .int .u8 0, .int .u8 0, .int .u8 0, .int .u8 0, .int .u8 0, .int .u8 0, .int .u8 0, .int .u8 0, .int .u8 0, .int .u8 0, .int .u8 0, .int .u8 0, .int .u8 0, .int .u8 0, .int .u8 0, .int .u8 0, .int .u8 0, .int .u8 0, .int .u8 0, .int .u8 0, .int .u8 0, .int .u8 0, .int .u8 0, .int .u8 0, .int .u8 0, .int .u8 0, .int .u8 0, .int .u8 0, .int .u8 0, .int .u8 0, .int .u8 0, .int .u8 0, .int .u8 0, .int .u8 0, .int .u8 0, .int .u8 0, .int .u8 0, .int .u8 0, .int .u8 0, .int .u8 0, .int .u8 0, .int .u8 0, .int .u8 0, .int .u8 0, .int .u8 0, .int .u8 0, .int .u8 0, .int .u8 0, .int .u8 0, .int .u8 0, .int .u8 0, .int .u8 0, .int .u8 0, .str [97], .str []]] H True (.tup [.sl 8 (bytesAV [4, 49, 58, 97, 44, 48, 58, 44]) .ro, .int .i64 0]) H := fun H => ⟨fun _ => by
    have := (recEncode_ok (n0 := n0) (w0 := w0) (gl := gl) (H := H) holdA h1 (recBytes_len h1 h2) h2).call
    rw [h3] at this
    exact fun g w cs hr hv => this g w cs hr ⟨hv.1, fun i => match i with
      | 0 => holdL_weak g _ (hv.2 0)
      | i + 1 => .top _⟩⟩
  have hde : ∀ H, Ctr (env n0 w0 gl) 15 [.sl 8 (bytesAV [4, 49, 58, 97, 44, 48, 58, 44]) .ro] H True (.tup [.agg holdA.av, .int .i64 0]) H := fun H => .of fun _ => by
    have := recDecode_enc (n0 := n0) (w0 := w0) (gl := gl) (H := H) holdA h1 h2 (by decide) (by decide)
    rw [h3, h4] at this
    exact this
  have q1 := recAV_len h1
  have q2 : holdA.av.all AV.one = true := by simp [RecA.av, Msg.av, AV.one, bytesAV_one, List.all_append]
  have q3 : holdA.av.headD .top = .int .i64 4 := rfl
  have q4 : List.drop 109 holdA.av = [] := List.drop_eq_nil_of_le (by omega)
  have q5 : (List.take 1 (List.drop 107 holdA.av)).headD .top = .str [97] := rfl
  have q7 : holdA.av.getD 107 .top = .str [97] := rfl
  have q6 : (List.take 1 holdA.av).headD .top = .int .i64 4 := rfl
  have hh := And.intro q1 <| And.intro q2 <| And.intro q3 <| And.intro q4 <| And.intro q5 <| And.intro q6 q7
  have hb := belowL_recAV
  generalize holdA.av = A at *
  refine enter (md := fun _ => 0) Tryz.func9 (fun hfit hgl => ?_)
  repeat' (first | refine go ?_ | (refine br (fun hc => ?_) (fun hc => ?_) <;> try (exfalso; omega)) | fail)
  exact .junkd ⟨rfl, rfl⟩
instance rawake_t [ht : Tab10 n0 w0] : Ctr (env n0 w0 gl) 9 [] H True (.bool true) H := .of fun _ => rawake_e

end Go.Ab.Tryz

end

section
set_option linter.unusedSimpArgs false
set_option linter.unusedVariables false
set_option maxHeartbeats 8000000
set_option maxRecDepth 10000
namespace Go.Ab.Tryz
open Go Go.Ab Go.Proofs
attribute [local irreducible] W Wl Wop TrA WSeq WLoopS FPost DPost RPost WRound DK onEnd
attribute [local simp] belowL_bytesAV belowL_strsM belowL_appM belowL_fillL belowL_rep
variable {n0 : Nat} {w0 : World} {gl : Nat → List AV} {H : List AO}

/-- Whether a record is short. -/
def RecA.Few (r : RecA) : Prop := r.m.Few ∧ r.name.length ≤ 100 ∧ r.who.length ≤ 300
theorem rfew_e (r : RecA) (h1 : r.leaf.length = 32) (h2 : r.root.length = 32) (h3 : r.prev.length = 32) (hm : r.m.Small) : AEnter (env n0 w0 gl) 10 [.agg r.av] H (fun y H' => y = .ret (.bool (tf r.Few)) ∧ H' = H) := by
  have hf : ∀ H, Ctr (env n0 w0 gl) 30 [.agg r.m.av] H True (.bool (tf r.m.Few)) H := fun H => .of fun _ => few15_e r.m hm
  have hh := recf _ _ _ h1 h2 h3
  have hF : tf r.Few = (tf r.m.Few && (decide ((r.name.length : Int) ≤ 100) && decide ((r.who.length : Int) ≤ 300))) := by
    unfold RecA.Few
    by_cases a : r.m.Few
    · by_cases b : r.name.length ≤ 100
      · by_cases c : r.who.length ≤ 300
        · rw [tf_true ⟨a, b, c⟩, tf_true a, decide_eq_true (by omega), decide_eq_true (by omega)]; rfl
        · rw [tf_false (fun h => c h.2.2), tf_true a, decide_eq_true (by omega), decide_eq_false (by omega)]; rfl
      · rw [tf_false (fun h => b h.2.1), tf_true a, decide_eq_false (by omega)]; rfl
    · rw [tf_false (fun h => a h.1), tf_false a]; rfl
  rw [hF]
  obtain ⟨kind, ⟨id, cls, fro, to, at_, body⟩, pid, leaf, pat, seg, count, root, prev, name, who⟩ := r
  simp only at hh hf ⊢
  simp only [RecA.av, Msg.av, List.cons_append, List.nil_append] at hf ⊢
  generalize tf _ = q at *
  cases q
  · refine enter (md := fun t => if t = 1 then 1 else 0) Tryz.func10 (fun hfit hgl => ?_)
    repeat' (first | refine go ?_ | (refine br (fun hc => ?_) (fun hc => ?_) <;> try (exfalso; omega)) | fail)
    all_goals exact .now ⟨rfl, rfl⟩
  · by_cases b : name.length ≤ 100
    · rw [decide_eq_true (show (name.length : Int) ≤ 100 by omega)]
      refine enter (md := fun t => if t = 1 then 1 else 0) Tryz.func10 (fun hfit hgl => ?_)
      repeat' (first | refine go ?_ | (refine br (fun hc => ?_) (fun hc => ?_) <;> try (exfalso; omega)) | fail)
      all_goals exact .now ⟨rfl, rfl⟩
    · rw [decide_eq_false (show ¬ (name.length : Int) ≤ 100 by omega)]
      refine enter (md := fun t => if t = 1 then 1 else 0) Tryz.func10 (fun hfit hgl => ?_)
      repeat' (first | refine go ?_ | (refine br (fun hc => ?_) (fun hc => ?_) <;> try (exfalso; omega)) | fail)
      all_goals exact .now ⟨rfl, rfl⟩

end Go.Ab.Tryz

end
