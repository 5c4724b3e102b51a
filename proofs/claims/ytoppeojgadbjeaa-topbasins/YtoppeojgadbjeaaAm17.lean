/-
  THE ABSTRACT MACHINE, 17: the start of a law: lists that came in, as blocks that are only read; what the abstract machine's answer says of the model's call.
-/
import Derived.Test.YtoppeojgadbjeaaAm16
import Derived.Below
set_option linter.unusedVariables false
namespace Go.Am
variable [Glo]
open Go.RowKit
def memFrom : Mem → List (List AV) → Mem
  | m,[] => m
  | m,cs :: r => memFrom (m.alloc ⟨cs,false⟩) r
def memOf (l : List (List AV)) : Mem := memFrom ⟨0,.leaf⟩ l
omit [Glo] in
theorem memFrom_next : ∀ (l : List (List AV)) (m : Mem),(memFrom m l).next = m.next + l.length
  | [],m => rfl
  | cs :: r,m => by rw [memFrom,memFrom_next r,Mem.next_alloc,List.length_cons,Nat.add_assoc,Nat.add_comm 1]
omit [Glo] in
theorem memFrom_look : ∀ (l : List (List AV)) (m : Mem) (i : Nat),(memFrom m l).look i = if m.next ≤ i ∧ i < m.next + l.length then (l[i - m.next]?).map (⟨·,false⟩) else m.look i
  | [],m,i => by rw [memFrom,if_neg (by simp)]
  | cs :: r,m,i => by
    rw [memFrom,memFrom_look r,Mem.next_alloc,Mem.look_alloc]
    by_cases h : i = m.next
    · subst h
      rw [if_neg (by omega),if_pos rfl,if_pos (by simp)]
      simp
    · by_cases h2 : m.next + 1 ≤ i ∧ i < m.next + 1 + r.length
      · rw [if_pos h2,if_pos (by simp; omega),show i - m.next = (i - (m.next + 1)) + 1 by omega,List.getElem?_cons_succ]
      · rw [if_neg h2,if_neg h,if_neg (by simp; omega)]
omit [Glo] in
theorem memOf_next (l : List (List AV)) : (memOf l).next = l.length := by rw [memOf,memFrom_next]; simp
omit [Glo] in
theorem memOf_look (l : List (List AV)) (i : Nat) : (memOf l).look i = (l[i]?).map (⟨·,false⟩) := by
  rw [memOf,memFrom_look]
  by_cases h : i < l.length
  · rw [if_pos (by simpa using h)]; simp
  · rw [if_neg (by simpa using h)]
    simp [Mem.look,Tr.get,List.getElem?_eq_none (Nat.le_of_not_lt h)]
def placesOf (ps : List Place) : PM := fun i => ps[i]?
theorem rel_start {w : World} {l : List (List AV)} {ps : List Place} (hl : l.length = ps.length) (h : ∀ (i : Nat) (cs : List AV) (p : Place),l[i]? = some cs → ps[i]? = some p → p.map = false ∧ CellsAt (placesOf ps) w cs p) : Rel (placesOf ps) (memOf l) w := by
  refine ⟨fun i hi => ?_,fun i b hb => ?_,fun i j b b' p q hb ho hp => ?_⟩
  · rw [memOf_next] at hi
    exact List.getElem?_eq_none (by omega)
  · rw [memOf_look] at hb
    simp only [Option.map_eq_some_iff] at hb
    obtain ⟨cs,hcs,rfl⟩ := hb
    have hi : i < ps.length := by rw [← hl]; exact (List.getElem?_eq_some_iff.1 hcs).1
    exact ⟨ps[i],List.getElem?_eq_getElem hi,⟨fun _ => (h i cs _ hcs (List.getElem?_eq_getElem hi)).2,fun _ ho => (by cases ho),fun _ _ hk => (by rw [(h i cs _ hcs (List.getElem?_eq_getElem hi)).1] at hk; cases hk),fun hk => (by rw [(h i cs _ hcs (List.getElem?_eq_getElem hi)).1] at hk; cases hk)⟩⟩
  · rw [memOf_look] at hb
    simp only [Option.map_eq_some_iff] at hb
    obtain ⟨cs,hcs,rfl⟩ := hb
    cases ho
theorem law_calls {P : Program} {C : Prog} (hC : ProgOk C P) (hmix : P.follows .mixedOrders = true) {n f : Nat} {args : List AV} {l : List (List AV)} {m' : Mem} (h : callA C n f args (memOf l) = some (.bool true,m'))
    {w : World} {ps : List Place} {cargs : Array Value} (hl : l.length = ps.length) (hc : ∀ (i : Nat) (cs : List AV) (p : Place),l[i]? = some cs → ps[i]? = some p → p.map = false ∧ CellsAt (placesOf ps) w cs p) (ha : VRs (placesOf ps) args cargs.toList) (hG : Glob P (placesOf ps)) (hf : f < 100000 := by decide) :
    Calls P f cargs w fun e w' => e = .returned (.bool true) ∧ Below w.heap.size w w' := by
  refine (call_ok hC hmix n f args (memOf l) (.bool true) m' hf h cargs _ w ha (rel_start hl hc) hG).mono ?_
  rintro e w' ⟨u,ρ',rfl,hv,hs⟩
  cases hv
  refine ⟨rfl,hs.os,hs.tape,hs.output,hs.size,fun k hk => hs.frame k hk ?_⟩
  rintro ⟨i,b,p,hb,ho,_⟩
  rw [memOf_look] at hb
  simp only [Option.map_eq_some_iff] at hb
  obtain ⟨cs,hcs,rfl⟩ := hb
  cases ho
omit [Glo] in
theorem rndOf_range {P : Program} {j : Nat} {R : Rnd} (h : rndOf P j = some R) : j % 2 = 0 ∧ 100000 ≤ j ∧ j < 200000 := by
  unfold rndOf at h
  cases hb : (Nat.beq (j % 2) 0 && (Nat.ble 100000 j && Nat.blt j 200000))
  · rw [hb] at h; cases h
  · simpa only [Bool.and_eq_true,Nat.beq_eq,Nat.ble_eq,Nat.blt_eq] using hb
end Go.Am
