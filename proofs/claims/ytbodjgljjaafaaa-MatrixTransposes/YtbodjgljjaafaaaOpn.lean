/- From what a row's step is handed to what the machine reads. -/
import Derived.Test.YtbodjgljjaafaaaLawQ
import Derived.ChangeSlices
import Derived.OpenShut
import Derived.Lib.SmallJoins
import Derived.Laws.IdiomArrays
import Derived.RowKit
namespace Go.AM
open Go.ChangeShapes Go.WideShapes Go.ChangeAt Go.RowKit

theorem cell_some {w : World} {a : Addr} {v : Value} (h : w.cell? a = some v) : a.spot = none ∧ ∃ cs t fr, w.heap[a.block]? = some (.cells cs t fr) ∧ cs[a.off]? = some v := by
  unfold World.cell? at h
  split at h
  · rename_i cs t fr hb
    cases hs : a.spot with
    | none => rw [hs] at h; exact ⟨rfl, cs, t, fr, hb, by simpa using h⟩
    | some x => rw [hs] at h; simp at h
  · simp at h

/-- All that lies in memory is data to us. -/
def oldI (w : World) : Nat → Prop := fun b => b < w.heap.size

theorem reads_row {w : World} {k : IntKind} {x : Addr} {len cap : Nat} {zs : List Int} (hl : len ≤ cap) (hz : zs.length = cap) (hcell : ∀ i, i < zs.length → w.cell? (x.add i) = some (.int k (zs.getD i 0))) :
    Reads w (oldI w) (.slice (some x) len cap) (.sl ((zs.take len).map fun n => [D.int k n])) := by
  by_cases h0 : len = 0
  · subst h0; exact .slnil _ _
  · have h1 := hcell 0 (by omega)
    rw [show x.add 0 = x from rfl] at h1
    obtain ⟨hs, cs, t, fr, hb, hc⟩ := cell_some h1
    obtain ⟨b, off, spot⟩ := x
    simp only at hs hb hc
    subst hs
    have hlen : ((zs.take len).map fun n => [D.int k n]).length = len := by simp; omega
    have hlt : b < w.heap.size := by
      rcases Nat.lt_or_ge b w.heap.size with h | h
      · exact h
      · rw [Array.getElem?_eq_none h] at hb; simp at hb
    have := Reads.sl (w := w) (I := oldI w) (b := b) (off := off) (cap := cap) (s := 1) (cs := cs) (t := t) (fr := fr) ((zs.take len).map fun n => [D.int k n]) (fun i _ => .int k (zs.getD i 0)) hlt hb (fun y hy => by
      simp only [List.mem_map] at hy
      obtain ⟨_, _, rfl⟩ := hy; rfl) (by omega) (fun i j d hd => ?_) (fun i j d hd => ?_)
    · rw [hlen] at this; exact this
    all_goals
      simp only [at2, List.getElem?_map, Option.bind_eq_some_iff, Option.map_eq_some_iff] at hd
      obtain ⟨y, ⟨n, hn, rfl⟩, hd⟩ := hd
      have hi : i < len ∧ zs[i]? = some n := by
        rw [List.getElem?_take] at hn
        split at hn
        · exact ⟨by assumption, hn⟩
        · simp at hn
      have hj : j = 0 ∧ d = .int k n := by
        cases j with
        | zero => simp at hd; exact ⟨rfl, hd.symm⟩
        | succ j => simp at hd
      obtain ⟨rfl, rfl⟩ := hj
      have hg : zs.getD i 0 = n := by rw [List.getD_eq_getElem?_getD, hi.2]; rfl
    · have h2 := hcell i (by omega)
      rw [add_off, cell_of hb] at h2
      rw [Nat.mul_one, Nat.add_zero]; exact h2
    · rw [hg]; exact Reads.int k n

theorem reads_opened {w : World} {H : Type} {enc : TypeId × Value → H} {P : Program} {held : Bool} {t e : TypeId} {k : IntKind} {fuel : Nat} {cs : List Value} {x : DataW H × List MemPlace} (ht : P.underlying t = some (.slice e)) (he : P.underlying e = some (.int k)) (hc : P.cellsOf e = 1)
    (h : DataW.trod enc P w 0 (fun _ => true) held fuel t cs = some x) : ∃ (v : Value) (zs : List Int), cs = [v] ∧ Reads w (oldI w) v (.sl (zs.map fun n => [D.int k n])) := by
  rcases open_ints ht he hc h with ⟨rfl, _⟩ | ⟨a, len, cap, zs, rfl, _, hl, _, hz, _, hcell, _⟩
  · exact ⟨_, [], rfl, .slnil _ _⟩
  · exact ⟨_, zs.take len, rfl, reads_row hl (by simpa using hz) hcell⟩

theorem sim_old (w : World) : SimH (oldI w) [] [] w := SimH.nil fun _ h => h

/-- What is known at the end of a law. -/
theorem law_end {P : Program} {k : FuncId} {args : List V} (hf : FnD P k args (vb true) []) {w : World} {vs : List Value} (hr : RelVL w (oldI w) [] vs args) :
    Calls P k vs.toArray w fun e w' => e = .returned (.bool true) ∧ Below w.heap.size w w' := by
  refine (hf.2 (oldI w) [] w vs (sim_old w) hr).mono ?_
  rintro e w' ⟨v, r, h', I', M', he, ⟨rfl, rfl⟩, hrel, _, hext, _, _⟩
  have hv := relV_bool hrel
  subst hv
  refine ⟨he, hext.os, hext.tape, hext.output, hext.size, fun k hk => hext.heap k hk ?_⟩
  rintro ⟨o, ho⟩
  simp [fpAt] at ho

end Go.AM
