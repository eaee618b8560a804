/- Walks: the boundary that is not in any bytes; texts, each a line. -/
import Derived.Test.YtadghefkbjacjaaGreatDoorLConvA
import Derived.Test.YtadghefkbjacjaaGreatDoorLMboxA
import Derived.Test.YtadghefkbjacjaaGreatDoorLHeadB
import Derived.Test.YtadghefkbjacjaaGreatDoorLBuildA
import Derived.Test.YtadghefkbjacjaaGreatDoorSMime
import Derived.Lib.ItoaMem
import Derived.Lib.ItoaLen
set_option linter.unusedSimpArgs false
set_option linter.unusedVariables false
set_option maxHeartbeats 2000000
set_option maxRecDepth 4000
namespace Go.Ab.Tryz
open Go Go.Ab Go.Proofs
attribute [local irreducible] W Wl Wop TrA WSeq WLoopS FPost DPost RPost WRound DK onEnd
variable {n0 : Nat} {w0 : World} {gl : Nat → List AV} {H : List AO}
attribute [local simp] belowL_bytesAV

instance index_any_t [hml : GLInt gl 0] (s t : List UInt8) (n k : Nat) (tok tok2 : Tok) : Ctr (env n0 w0 gl) 235 [.sl n (bytesAV s) tok, .sl k (bytesAV t) tok2] H (s.length = n ∧ t.length = k ∧ n < 4294967281 ∧ 2 ≤ k ∧ k ≤ 1000000000) (.int .i64 (Lib.index s t)) H := .of fun ⟨hs1, ht1, hs, hk2, hk3⟩ =>
  AEnter.of_calls (fn := Tryz.f235) Tryz.func235 rfl rfl fun g w cs hr hv => by
    subst hs1; subst ht1
    obtain ⟨c, d, rfl, h1, h2⟩ := rels2 hv
    rcases sl_bytes (s := t) hr h2 rfl with ⟨_, h⟩ | ⟨a2, c2, rfl, hc2, hcell2⟩
    · rw [h] at hk2; simp at hk2
    rcases sl_bytes hr h1 rfl with ⟨rfl, rfl⟩ | ⟨a1, c1, rfl, hc1, hcell1⟩
    · refine (Tryz.bytes_Index_nil _ t.length c2 w (by omega) (by omega)).mono ?_
      rintro e w' ⟨rfl, rfl⟩
      have : Lib.index [] t = if t.length = 0 then 0 else -1 := by
        unfold Lib.index; cases t <;> simp
      rw [this]
      exact econc_same hr (.int _ _)
    · obtain ⟨m, hm⟩ := hml.ex
      obtain ⟨v, hv1, hv2⟩ := gl_cell hr 0 (l := [.int .i64 m]) hm 0 (by simp)
      have hv3 := hv2.int_inv
      subst hv3
      refine (Any.bytes_Index_at { Tryz.laysM185 with } a1 a2 s.length c1 t.length c2 (s.map fun b => (b.toNat : Int)) (t.map fun b => (b.toNat : Int)) m w (by simp) (by simp) ?_ ?_ ?_ ?_ hc1 hs (by omega) hv1).mono ?_
      · intro x hx
        obtain ⟨b, _, rfl⟩ := List.mem_map.1 hx
        have := b.toNat_lt
        omega
      · intro x hx
        obtain ⟨b, _, rfl⟩ := List.mem_map.1 hx
        have := b.toNat_lt
        omega
      · intro i hi
        rw [(hcell1 i hi).2]
        simp [List.getD_eq_getElem?_getD, hi]
      · intro i hi
        rw [(hcell2 i hi).2]
        simp [List.getD_eq_getElem?_getD, hi]
      · rintro e w' ⟨rfl, q, rfl⟩
        rw [bytesOf_ints, bytesOf_ints]
        exact econc_ret hr ((RowKit.Below.refl _ _).trans ⟨rfl, rfl, rfl, Nat.le_refl _, fun _ _ => rfl⟩) (.int _ _)

theorem take_drop_len (s : List UInt8) (i k : Nat) : List.drop i (List.take (i + k) s) = (s.drop i).take k := by
  rw [List.drop_take]; congr 1; omega

/-- A row of texts. -/
theorem sl_strs {E : Env} {g : Ghost} {w : World} {n : Nat} {xs : List (List UInt8)} {tok : Tok} {c : Value} (hr : E.Rep g H w) (h : VRel g (.sl n (xs.map .str) tok) c) (hn : xs.length = n) (h0 : 0 < n) :
    ∃ b o cap, c = .slice (some ⟨b, o, none⟩) n cap ∧ n ≤ cap ∧ b < w.heap.size ∧ ∀ i x, xs[i]? = some x → w.cell? ⟨b, o + i, none⟩ = some (.string ⟨x.toArray⟩) := by
  generalize hx : xs.map AV.str = ys at h
  cases h with
  | nsl => exact absurd h0 (Nat.lt_irrefl _)
  | sl _ _ _ b o cap vs h1 hk hv ht =>
    subst hx
    refine ⟨b, o, cap, rfl, h1, hr.K_lt (hk 0 (by simp; omega)), fun i x hi => ?_⟩
    have hil : i < xs.length := (List.getElem?_eq_some_iff.1 hi).1
    have h2 := hr.know _ _ _ (hk i (by simpa using hil))
    have h3 := hv i
    have h4 : (xs.map AV.str).getD i .top = .str x := by simp [List.getD_eq_getElem?_getD, hi]
    rw [h4] at h3
    rw [h2, h3.str_inv]

end Go.Ab.Tryz
