/- The order of a word's places: what it hands out. -/
import Derived.Test.YtppemehkbnbjlaaLF
import Derived.Test.YtppemehkbnbjlaaN2
set_option linter.unusedVariables false
set_option linter.unusedSimpArgs false
namespace Go.Spec
open Go Go.Lift Go.Proofs
abbrev turnL (n : Int) : List Int := Go.Proofs.Try.turnL n
def S_match_order : Summ := { par := [.v (.int .i64)], res := [.row (.int .i64)], esc := false, pre := fun x => Prod.fst x ≤ 1000000, fn := fun x => ((turnL x.1, ()), ((), ())) }
theorem ok_match_order : SumOK Try.prog 85 S_match_order := by
  intro x args ls w ok okO hpre hps hap hdis
  obtain ⟨n, ⟨⟩⟩ := x
  obtain ⟨v, vs', l, ls', rfl, rfl, hv, rfl, rfl⟩ := hps
  have hv : v = .int .i64 n := VRel.int_eq hv
  subst hv
  have hn : n ≤ 1000000 := hpre
  refine ((callsIn_wide (n := 3)).1 (Try.order_in Fence.wide 3 trivial trivial trivial rfl (by omega) n hn w)).mono ?_
  rintro e W' ⟨v, rfl, hrow, hnil, hB⟩
  have kept : Kept (fun b => ∃ l' ∈ ioLocs S_match_order.par [l], l'.has b) w.heap.size w W' := ⟨hB.os, hB.tape, hB.output, hB.size, fun k hk _ => hB.block k hk⟩
  have apart : ∀ s : Sub, Apart ([s] ++ []) := fun s i j a b bb hi hj _ _ => by
    have h1 : i < [s].length := (List.getElem?_eq_some_iff.1 hi).1
    have h2 : j < [s].length := (List.getElem?_eq_some_iff.1 hj).1
    simp at h1 h2; omega
  rcases hrow.2 with ⟨rfl, h0⟩ | ⟨g, cap, cur, rfl, hg, hb, hc1, hc2, hc3, hc4⟩
  · have hxs : turnL n = [] := hnil.1 rfl
    refine ⟨[.slice none 0 0], [mkSub none 0 0], [], rfl, ⟨kept, ?_, rfl, .nil, trivial, apart _, ?_, ?_⟩⟩
    · refine ⟨_, _, _, _, rfl, rfl, ⟨?_, ?_⟩, rfl, rfl⟩
      · exact ⟨by show (turnL n).length ≤ 0; rw [hxs]; exact Nat.le_refl _, rfl⟩
      · show _ = Value.slice none (turnL n).length 0
        rw [hxs]; rfl
    · intro l' hl'
      obtain rfl : l' = mkSub none 0 0 := by simpa using hl'
      exact ⟨mkSub_inj _ _ _, fun q => by cases q <;> rfl, fun b hb => by cases mkSub_has.1 hb⟩
    · intro l' hl' b hb
      obtain rfl : l' = mkSub none 0 0 := by simpa using hl'
      cases mkSub_has.1 hb
  · refine ⟨[_], [mkSub (some g) 0 cap], [], rfl, ⟨kept, ?_, rfl, .nil, trivial, apart _, ?_, ?_⟩⟩
    · refine ⟨_, _, _, _, rfl, rfl, ⟨?_, rfl⟩, rfl, rfl⟩
      refine ⟨hc1, cur, 3, (0, 0), hb, fun i _ => by simp, ?_, fun i hi => ?_⟩
      · show 0 + cap * 1 ≤ cur.size
        omega
      · have hi : i < (turnL n).length := hi
        show cur[0 + i * 1 + 0]? = some (.int .i64 (turnL n)[i])
        have h1 : (cur.toList.take ((turnL n).length * 1))[i]? = ((turnL n).map (Value.int .i64))[i]? := by rw [hc4]
        rw [List.getElem?_take_of_lt (by omega), List.getElem?_map, List.getElem?_eq_getElem hi] at h1
        rw [show 0 + i * 1 + 0 = i by omega]
        simpa using h1
    · intro l' hl'
      obtain rfl : l' = mkSub (some g) 0 cap := by simpa using hl'
      refine ⟨mkSub_inj _ _ _, fun q => by cases q <;> rfl, fun b hb' => ?_⟩
      cases mkSub_has.1 hb'
      exact (Array.getElem?_eq_some_iff.1 hb).1
    · intro l' hl' b hb'
      obtain rfl : l' = mkSub (some g) 0 cap := by simpa using hl'
      cases mkSub_has.1 hb'
      exact .inl hg
end Go.Spec
