import Derived.Test.YtcckhkcchpfdoaaShareH1
import Derived.Test.YtcckhkcchpfdoaaShareT0
set_option linter.unusedVariables false
set_option linter.unusedSimpArgs false
set_option maxRecDepth 10000
set_option maxHeartbeats 400000
namespace Go.Am.Share
open Go.Am.G
theorem outer_nil (P : Nat → Nat → Bool) (N : Nat) : outer P N 0 N = [] ↔ ∀ i j,i < N → j < N → P i j = false := by
  unfold outer inner
  rw [List.flatMap_eq_nil_iff]
  constructor
  · intro h i j hi hj
    have := h i (by rw [List.mem_range'_1]; omega)
    rw [List.map_eq_nil_iff,List.filter_eq_nil_iff] at this
    simpa using this j (by rw [List.mem_range'_1]; omega)
  · intro h i hi
    rw [List.mem_range'_1] at hi
    rw [List.map_eq_nil_iff,List.filter_eq_nil_iff]
    intro j hj
    rw [List.mem_range'_1] at hj
    rw [h i j (by omega) (by omega)]; decide
end Go.Am.Share
set_option linter.unusedVariables false
set_option linter.unusedSimpArgs false
set_option maxRecDepth 10000
set_option maxHeartbeats 400000
namespace Go.Am.Share
open Go.Am.G
def Fl (m m' : LMem) : Prop := m'.length = m.length ∧ ∀ (i : Nat) cs w,m[i]? = some ⟨cs,w⟩ → ∃ w',m'[i]? = some ⟨cs,w'⟩
theorem Fl.refl (m : LMem) : Fl m m := ⟨rfl,fun i cs w h => ⟨w,h⟩⟩
theorem Fl.trans {a b c : LMem} (h1 : Fl a b) (h2 : Fl b c) : Fl a c := ⟨h2.1.trans h1.1,fun i cs w h => by
  obtain ⟨w1,e1⟩ := h1.2 i cs w h
  exact h2.2 i cs w1 e1⟩
theorem fl_freeze : ∀ (ids : List Nat) (m : LMem),Fl m (freeze ids m)
  | [],m => by rw [freeze_nil]; exact Fl.refl m
  | i :: r,m => by
    have h1 : Fl m (freeze1 m i) := by
      unfold freeze1
      split
      · rename_i b hb
        refine ⟨by simp,fun j cs w h => ?_⟩
        by_cases c : i = j
        · subst c
          rw [hb] at h
          have := Option.some.inj h
          rw [List.getElem?_set_self (get_lt' hb),this]
          exact ⟨false,rfl⟩
        · rw [List.getElem?_set_ne c]; exact ⟨w,h⟩
      · exact Fl.refl m
    exact h1.trans (fl_freeze r (freeze1 m i))
theorem call_fl {f : Nat} {lf : LFunc} (hC : LP f = some lf) (hm : lf.mode = .P) {args vs : List LV} {ids : List Nat} {m : LMem} (hv : views m args = some (vs,ids)) (hp : LV.pures vs = true) {v : LV} (hc : clF LP f vs [] = some (.P,v,[])) : ∃ m',clF LP f args m = some (.P,v,m') ∧ Fl m m' := by
  rcases call_sh hC hm hv hp hc with h | h
  · exact ⟨m,h,Fl.refl m⟩
  · exact ⟨_,h,fl_freeze ids m⟩
theorem views_ab8 {m : LMem} {a v a' v' : LV} {i1 i2 : List Nat} (h1 : ∀ k,view (k + 12) m a = some (a',i1)) (h2 : ∀ k,view (k + 12) m v = some (v',i2)) (hn : LV.pures [a,v] = false) : views m [a,v] = some ([a',v'],i1 ++ i2) := by
  show viewL 100 m _ = _
  rw [viewL.eq_def]
  simp only [hn,cond_false]
  rw [viewC.eq_def]
  simp only [h1 86]
  rw [viewC.eq_def]
  simp only [h2 85]
  rw [viewC.eq_def]
  simp only [List.append_nil]
theorem views_a8 {m : LMem} {a a' : LV} {i1 : List Nat} (h1 : ∀ k,view (k + 12) m a = some (a',i1)) (hn : LV.pures [a] = false) : views m [a] = some ([a'],i1) := by
  show viewL 100 m _ = _
  rw [viewL.eq_def]
  simp only [hn,cond_false]
  rw [viewC.eq_def]
  simp only [h1 86]
  rw [viewC.eq_def]
  simp only [List.append_nil]
def Sees (m : LMem) (A : LV) (ex : Bool) (R : List (List Int)) : Prop := A.pure = false ∧ ∃ ids,∀ k,view (k + 12) m A = some (VL false ex 1 (R.map rowR),ids)
theorem rowR_lv (R : List (List Int)) : (R.map rowR).map Row.lv = R.map RL := by simp [rowR]
theorem vals_rowR (R : List (List Int)) : vals (R.map rowR) = R := by simp [vals,rowR,Function.comp_def]
theorem sees_val {m : LMem} {b : Nat} {R : List (List Int)} {w : Bool} (h : m[b]? = some ⟨R.map RL,w⟩) : Sees m (SLv b R.length) false R := by
  refine ⟨rfl,[b],fun k => ?_⟩
  have := view_slc (k + 9) m b 0 R.length R.length 1 R.length 1 (R.map RL) w h (by rw [List.drop_zero,List.take_of_length_le (by simp)]; exact rl_pures _) (by simp) (by omega) (Nat.le_refl _)
  rw [List.drop_zero,List.take_of_length_le (by simp)] at this
  rw [show k + 12 = k + 9 + 3 from rfl,this]
  show some (LV.lst false _ 1 R.length (R.map RL),[b]) = some (LV.lst false false 1 (R.map rowR).length ((R.map rowR).map Row.lv),[b])
  rw [rowR_lv,List.length_map]; rfl
def Shows (m : LMem) (v : LV) (l : List Int) : Prop := ∃ ids,∀ k,view (k + 12) m v = some (RL l,ids)
theorem shows_gv {m : LMem} {b : Nat} {l : List Int} (h : l ≠ [] → ∃ w,m[b]? = some ⟨ints l,w⟩) : Shows m (GV b l) l := by
  by_cases c : l = []
  · subst c; exact ⟨[],fun k => rfl⟩
  · obtain ⟨w,hw⟩ := h c
    exact ⟨_,fun k => G.view_gv (k + 9) m b l w (fun _ => hw)⟩
theorem call_1 {f : Nat} {lf : LFunc} (hC : LP f = some lf) (hm : lf.mode = .P) {m : LMem} {A : LV} {ex : Bool} {R : List (List Int)} (h : Sees m A ex R) {v : LV} (hc : clF LP f [VL false ex 1 (R.map rowR)] [] = some (.P,v,[])) : ∃ m',clF LP f [A] m = some (.P,v,m') ∧ Fl m m' := by
  obtain ⟨hp,ids,hv⟩ := h
  exact call_fl hC hm (views_a8 hv (by simp [LV.pures,hp])) (by simp only [LV.pures,LV.pure,Bool.and_self]) hc
theorem call_2 {f : Nat} {lf : LFunc} (hC : LP f = some lf) (hm : lf.mode = .P) {m : LMem} {A L : LV} {ex : Bool} {R : List (List Int)} {l : List Int} (h : Sees m A ex R) (hl : Shows m L l) {v : LV} (hc : clF LP f [VL false ex 1 (R.map rowR),RL l] [] = some (.P,v,[])) : ∃ m',clF LP f [A,L] m = some (.P,v,m') ∧ Fl m m' := by
  obtain ⟨hp,ids,hv⟩ := h
  obtain ⟨ids2,hv2⟩ := hl
  exact call_fl hC hm (views_ab8 hv hv2 (by simp [LV.pures,hp])) (by simp only [LV.pures,LV.pure,Bool.and_self]) hc
theorem call_2p {f : Nat} {lf : LFunc} (hC : LP f = some lf) (hm : lf.mode = .P) {m : LMem} {A L : LV} {ex : Bool} {R : List (List Int)} (h : Sees m A ex R) (hl : L.pure = true) {v : LV} (hc : clF LP f [VL false ex 1 (R.map rowR),L] [] = some (.P,v,[])) : ∃ m',clF LP f [A,L] m = some (.P,v,m') ∧ Fl m m' := by
  obtain ⟨hp,ids,hv⟩ := h
  exact call_fl hC hm (views_ab8 hv (fun k => view_pure (k + 10) m L hl) (by simp [LV.pures,hp])) (by simp only [LV.pures,LV.pure,hl,Bool.and_self]) hc
end Go.Am.Share
set_option linter.unusedVariables false
set_option linter.unusedSimpArgs false
set_option maxRecDepth 10000
set_option maxHeartbeats 1000000
namespace Go.Am.Share
open Go.Am.G
structure VGood (V : List (List Int)) (n : Nat) : Prop where
  pos : 0 < V.length
  le4 : V.length ≤ 4
  le6 : n ≤ 6
  row : ∀ v ∈ V,v.length = n ∧ Ok20 v
theorem VGood.get {V : List (List Int)} {n : Nat} (H : VGood V n) {i : Nat} (hi : i < V.length) : (V.getD i []).length = n ∧ Ok20 (V.getD i []) := by
  rw [List.getD_eq_getElem?_getD,List.getElem?_eq_getElem hi]
  exact H.row _ (List.getElem_mem hi)
theorem VGood.chk {V : List (List Int)} {n : Nat} (H : VGood V n) : chkV V = 0 := by
  have h0 := H.get H.pos
  have h1 := H.pos
  have h2 := H.le4
  have h3 := H.le6
  unfold chkV
  rw [if_neg (by omega),if_neg (by omega),h0.1]
  have key : ∀ vs : List (List Int),(∀ v ∈ vs,v.length = n ∧ Ok20 v) → rowsChk n vs = 0 := by
    intro vs
    induction vs with
    | nil => intro _; rfl
    | cons v vs ih =>
      intro h
      obtain ⟨a,b⟩ := h v (by simp)
      rw [rowsChk,if_neg (by omega),if_neg,ih fun x hx => h x (by simp [hx])]
      rw [Bool.not_eq_true,List.any_eq_false]
      intro x hx
      have := b x hx
      simp [inB]; omega
  exact key _ H.row
theorem VGood.div {V : List (List Int)} {n : Nat} (H : VGood V n) {o : List Int} (ho : o.length = n) (hr : ∀ x ∈ o,0 ≤ x ∧ x < (V.length : Int)) : divE V o = 0 := by
  have h0 := H.get H.pos
  unfold divE
  rw [H.chk,if_neg (by simp),if_neg (by omega),if_neg]
  rw [Bool.not_eq_true,List.any_eq_false]
  intro x hx
  have := hr x hx
  simp [inB]; omega
theorem VGood.inn {V : List (List Int)} {n : Nat} (H : VGood V n) {o : List Int} (ho : o.length < 1000) : In (V.map rowR) (decide (o = [])) (bif decide (o = []) then 0 else 1) o where
  hl := by rw [List.length_map]; have := H.le4; omega
  hr r hr := by
    obtain ⟨v,hv,rfl⟩ := List.mem_map.1 hr
    have := (H.row v hv).1
    have := H.le6
    show v.length < 1000000
    omega
  ho := by omega
  hsz := by by_cases c : o = [] <;> simp [c]
  hnl := by simp
theorem VGood.lok {V : List (List Int)} {n : Nat} (H : VGood V n) {o : List Int} (ho : o.length = n) (hr : ∀ x ∈ o,-1 ≤ x ∧ x < (V.length : Int)) : LOk (V.map rowR) o where
  pos := by rw [List.length_map]; exact H.pos
  le4 := by rw [List.length_map]; exact H.le4
  len i h := by
    rw [List.getElem_map]
    show o.length = (V[i]'(by simpa using h)).length
    rw [(H.row _ (List.getElem_mem _)).1,ho]
  ok i h := by
    rw [List.getElem_map]
    exact (H.row _ (List.getElem_mem (by simpa using h))).2
  le6 := by have := H.le6; omega
  own x hx := by rw [List.length_map]; exact hr x hx
theorem VGood.sizes {V : List (List Int)} {n : Nat} (H : VGood V n) : (V.map rowR).length < 1000000 ∧ ∀ r ∈ V.map rowR,r.l.length < 1000000 := by
  refine ⟨by rw [List.length_map]; have := H.le4; omega,fun r hr => ?_⟩
  obtain ⟨v,hv,rfl⟩ := List.mem_map.1 hr
  have := (H.row v hv).1
  have := H.le6
  show v.length < 1000000
  omega
theorem rowsM_good (w : List Nat) (M n r : Nat) (hM : M ≤ 20) (hn : n ≤ 6) (h1 : 1 ≤ r) (h4 : r ≤ 4) : VGood (rowsM w M n r) n := by
  have hl := rowsM_len w M n r
  refine ⟨by omega,by omega,hn,fun v hv => ?_⟩
  obtain ⟨i,_,rfl⟩ := List.mem_map.1 hv
  exact ⟨rowL_len _ _ _,rowL_20 _ _ _ hM⟩
end Go.Am.Share
set_option linter.unusedVariables false
set_option linter.unusedSimpArgs false
set_option maxRecDepth 10000
set_option maxHeartbeats 400000
namespace Go.Am.Share
open Go.Am.G
theorem fst_none (P : Nat → Bool) (n : Nat) : fstI P n 0 = -1 ↔ ∀ i,i < n → P i = false := by
  rcases fstI_cases P n 0 with ⟨a,h⟩ | ⟨i,a,h1,h2,h3⟩
  · exact ⟨fun _ i hi => h i (by omega) (by omega),fun _ => a⟩
  · refine ⟨fun e => by omega,fun h => ?_⟩
    rw [h i (by omega)] at h3; cases h3
theorem fair_iff (V : List (List Int)) (o : List Int) : fairI V o = true ↔ ∀ i j : Nat,i < V.length → j < V.length → ws (j : Int) (V.getD i []) o 0 ≤ ws (i : Int) (V.getD i []) o 0 := by
  unfold fairI
  rw [decide_eq_true_eq,fst_none]
  constructor
  · intro h i j hi hj
    have := h j hj
    simp only [decide_eq_false_iff_not,Classical.not_not] at this
    unfold enI at this
    have h2 : ¬ 0 < eW V o i j := of_decide_eq_false ((fst_none _ _).1 this i hi)
    unfold eW at h2
    omega
  · intro h j hj
    simp only [decide_eq_false_iff_not,Classical.not_not]
    unfold enI
    rw [fst_none]
    intro i hi
    have := h i j hi hj
    refine decide_eq_false ?_
    unfold eW
    omega
theorem wg_iff' (a b : Int) : ∀ (r o o' : List Int) (c : Int × Int),o.length = o'.length → (∀ k,k < o.length → (o.getD k 0 = a ↔ o'.getD k 0 = b)) → wg a r o c = wg b r o' c
  | [],o,o',c,_,_ => by simp [wg]
  | x :: r,[],[],c,_,_ => by simp [wg]
  | x :: r,[],y' :: o',c,h,_ => by simp at h
  | x :: r,y :: o,[],c,h,_ => by simp at h
  | x :: r,y :: o,y' :: o',c,h,hk => by
    have h0 := hk 0 (by simp)
    simp only [List.getD_cons_zero] at h0
    have ih := fun c => wg_iff' a b r o o' c (by simpa using h) (fun k hk' => by
      have := hk (k + 1) (by simpa using hk')
      simpa using this)
    rw [wg,wg,ih]
    by_cases e : y = a
    · rw [if_pos e,if_pos (h0.1 e)]
    · rw [if_neg e,if_neg (fun c => e (h0.2 c))]
theorem ws_iff' (a b : Int) (r o o' : List Int) (h : o.length = o'.length) (hk : ∀ k,k < o.length → (o.getD k 0 = a ↔ o'.getD k 0 = b)) : ws a r o 0 = ws b r o' 0 := by
  have h1 := wg_ws a r o (0,0)
  have h2 := wg_ws b r o' (0,0)
  rw [wg_iff' a b r o o' (0,0) h hk] at h1
  rw [← h1,h2]
def sumD (N t : Nat) (f : List Int → Nat) : Nat := ((allD N t).map f).sum
theorem count_sum {α : Type} (P : α → Bool) : ∀ l : List α,l.countP P = (l.map fun x => if P x = true then 1 else 0).sum
  | [] => rfl
  | a :: r => by
    rw [List.countP_cons,count_sum P r,List.map_cons,List.sum_cons,Nat.add_comm]
theorem sum_flat {α β : Type} (g : α → List β) (f : β → Nat) : ∀ l : List α,((l.flatMap g).map f).sum = (l.map fun p => ((g p).map f).sum).sum
  | [] => rfl
  | a :: r => by rw [List.flatMap_cons,List.map_append,List.sum_append,sum_flat g f r,List.map_cons,List.sum_cons]
theorem sumD_succ (N t : Nat) (f : List Int → Nat) : sumD N (t + 1) f = sumD N t fun p => ((List.range' 0 N).map fun j : Nat => f (p ++ [(j : Int)])).sum := by
  unfold sumD
  rw [allD,allS,sum_flat]
  congr 1
  refine List.map_congr_left fun p _ => ?_
  rw [List.map_map]; rfl
theorem sum_perm {l l' : List Nat} (h : l.Perm l') (f : Nat → Nat) : (l.map f).sum = (l'.map f).sum := by
  induction h with
  | nil => rfl
  | cons x _ ih => simp [ih]
  | swap x y l => simp; omega
  | trans _ _ h1 h2 => rw [h1,h2]
theorem sumD_perm (N : Nat) (σ : Nat → Nat) (hp : ((List.range' 0 N).map σ).Perm (List.range' 0 N)) : ∀ (t : Nat) (f : List Int → Nat),sumD N t (fun o => f (o.map fun x => ((σ x.toNat : Nat) : Int))) = sumD N t f
  | 0,f => by simp [sumD,allD]
  | t + 1,f => by
    rw [sumD_succ,sumD_succ]
    have e : (fun p : List Int => ((List.range' 0 N).map fun j : Nat => f ((p ++ [(j : Int)]).map fun x => ((σ x.toNat : Nat) : Int))).sum) = fun p => (fun q : List Int => ((List.range' 0 N).map fun j : Nat => f (q ++ [((j : Nat) : Int)])).sum) (p.map fun x => ((σ x.toNat : Nat) : Int)) := by
      funext p
      have := sum_perm hp fun j => f ((p.map fun x => ((σ x.toNat : Nat) : Int)) ++ [((j : Nat) : Int)])
      rw [List.map_map] at this
      simp only
      rw [← this]
      congr 1
      refine List.map_congr_left fun j _ => ?_
      simp
    rw [e]
    exact sumD_perm N σ hp t fun q => ((List.range' 0 N).map fun j : Nat => f (q ++ [(j : Int)])).sum
def sgm (r s i : Nat) : Nat := (r - 1 - i + s) % r
def sgC (r s : Nat) : Bool := decide (((List.range' 0 r).map (sgm r s)).Perm (List.range' 0 r)) && ((List.range r).all fun i => (List.range r).all fun j => decide (sgm r s i = sgm r s j → i = j)) && ((List.range r).all fun i => (List.range r).any fun j => decide (sgm r s j = i))
theorem sg_ok : ∀ r,r < 5 → ∀ s,s < r → sgC r s = true := by decide
theorem sg_facts {r s : Nat} (hr : r < 5) (hs : s < r) : ((List.range' 0 r).map (sgm r s)).Perm (List.range' 0 r) ∧ (∀ i j,i < r → j < r → sgm r s i = sgm r s j → i = j) ∧ ∀ i,i < r → ∃ j,j < r ∧ sgm r s j = i := by
  have h := sg_ok r hr s hs
  simp only [sgC,Bool.and_eq_true,decide_eq_true_eq,List.all_eq_true,List.mem_range,List.any_eq_true] at h
  exact ⟨h.1.1,fun i j hi hj => h.1.2 i hi j hj,fun i hi => h.2 i hi⟩
def rotR (R : List (List Int)) (s k : Nat) : List (List Int) := (List.range k).map fun i => R.getD ((i + s) % R.length) []
theorem rotR_len (R : List (List Int)) (s k : Nat) : (rotR R s k).length = k := by simp [rotR]
theorem rotR_succ (R : List (List Int)) (s k : Nat) : rotR R s (k + 1) = rotR R s k ++ [R.getD ((k + s) % R.length) []] := by simp [rotR,List.range_succ]
def movR (R : List (List Int)) (s : Nat) : List (List Int) := (rotR R s R.length).reverse
theorem movR_len (R : List (List Int)) (s : Nat) : (movR R s).length = R.length := by simp [movR,rotR_len]
theorem movR_at (R : List (List Int)) (s i : Nat) (hi : i < R.length) : (movR R s).getD i [] = R.getD (sgm R.length (s % R.length) i) [] := by
  rw [List.getD_eq_getElem?_getD,movR,List.getElem?_reverse (by rw [rotR_len]; exact hi),rotR_len,rotR,List.getElem?_map,List.getElem?_range (by omega)]
  simp only [Option.map_some,Option.getD_some,sgm,Nat.add_mod_mod]
theorem movR_good {R : List (List Int)} {n : Nat} (H : VGood R n) (s : Nat) : VGood (movR R s) n := by
  refine ⟨by rw [movR_len]; exact H.pos,by rw [movR_len]; exact H.le4,H.le6,fun v hv => ?_⟩
  rw [movR,List.mem_reverse,rotR,List.mem_map] at hv
  obtain ⟨i,_,rfl⟩ := hv
  exact H.get (Nat.mod_lt _ H.pos)
theorem fair_mov {R : List (List Int)} {n : Nat} (H : VGood R n) (s : Nat) {o : List Int} (ho : ∀ x ∈ o,0 ≤ x ∧ x < (R.length : Int)) : fairI (movR R s) o = fairI R (o.map fun x => ((sgm R.length (s % R.length) x.toNat : Nat) : Int)) := by
  have h4 := H.le4
  obtain ⟨_,hinj,hsur⟩ := sg_facts (r := R.length) (s := s % R.length) (by omega) (Nat.mod_lt _ H.pos)
  generalize hσ : sgm R.length (s % R.length) = σ at *
  have hw : ∀ (j : Nat) (row : List Int),j < R.length → ws (j : Int) row o 0 = ws ((σ j : Nat) : Int) row (o.map fun x => ((σ x.toNat : Nat) : Int)) 0 := fun j row hj => by
    refine ws_iff' _ _ row o _ (by simp) fun k hk => ?_
    have hkm : o[k] ∈ o := List.getElem_mem hk
    have hb := ho _ hkm
    have e1 : o.getD k 0 = o[k] := by rw [List.getD_eq_getElem?_getD,List.getElem?_eq_getElem hk]; rfl
    have e2 : (o.map fun x => ((σ x.toNat : Nat) : Int)).getD k 0 = ((σ (o[k]).toNat : Nat) : Int) := by
      rw [List.getD_eq_getElem?_getD,List.getElem?_map,List.getElem?_eq_getElem hk]; rfl
    rw [e1,e2]
    constructor
    · intro h; rw [h]; simp
    · intro h
      have := hinj (o[k]).toNat j (by omega) hj (by omega)
      omega
  rw [Bool.eq_iff_iff,fair_iff,fair_iff,movR_len]
  constructor
  · intro h i j hi hj
    obtain ⟨i',hi',rfl⟩ := hsur i hi
    obtain ⟨j',hj',rfl⟩ := hsur j hj
    have := h i' j' hi' hj'
    rw [movR_at R s i' hi',hσ,hw j' _ hj',hw i' _ hi'] at this
    exact this
  · intro h i j hi hj
    rw [movR_at R s i hi,hσ,hw j _ hj,hw i _ hi]
    have hlt : ∀ i,i < R.length → σ i < R.length := fun i hi => by
      rw [← hσ]; exact Nat.mod_lt _ H.pos
    exact h (σ i) (σ j) (hlt i hi) (hlt j hj)
theorem count_eq {V : List (List Int)} {n : Nat} (H : VGood V n) : countV V = ((sumD V.length n fun x => if fairI V x = true then 1 else 0 : Nat) : Int) := by
  rw [countV_eq,if_pos H.chk,fairs,(H.get H.pos).1,← List.countP_eq_length_filter,count_sum]
  rfl
theorem sumD_congr (N t : Nat) {f g : List Int → Nat} (h : ∀ p ∈ allD N t,f p = g p) : sumD N t f = sumD N t g := by
  unfold sumD
  rw [List.map_congr_left h]
theorem count_mov {R : List (List Int)} {n : Nat} (H : VGood R n) (s : Nat) : countV (movR R s) = countV R := by
  rw [count_eq H,count_eq (movR_good H s),movR_len]
  have h4 := H.le4
  obtain ⟨hp,_,_⟩ := sg_facts (r := R.length) (s := s % R.length) (by omega) (Nat.mod_lt _ H.pos)
  have h1 := sumD_perm R.length (sgm R.length (s % R.length)) hp n fun x => if fairI R x = true then 1 else 0
  rw [← h1]
  congr 1
  refine sumD_congr _ _ fun p hpm => ?_
  rw [fair_mov H s (allD_mem R.length n p hpm).2]
def widR (R : List (List Int)) : List (List Int) := R.map (· ++ [0])
theorem widR_len (R : List (List Int)) : (widR R).length = R.length := by simp [widR]
theorem widR_at (R : List (List Int)) (i : Nat) (hi : i < R.length) : (widR R).getD i [] = R.getD i [] ++ [0] := by
  rw [List.getD_eq_getElem?_getD,widR,List.getElem?_map,List.getElem?_eq_getElem hi,List.getD_eq_getElem?_getD,List.getElem?_eq_getElem hi]; rfl
theorem widR_good {R : List (List Int)} {n : Nat} (H : VGood R n) (hn : n ≤ 5) : VGood (widR R) (n + 1) := by
  refine ⟨by rw [widR_len]; exact H.pos,by rw [widR_len]; exact H.le4,by omega,fun v hv => ?_⟩
  obtain ⟨u,hu,rfl⟩ := List.mem_map.1 hv
  have h := H.row u hu
  refine ⟨by simp [h.1],fun x hx => ?_⟩
  rcases List.mem_append.1 hx with hx | hx
  · exact h.2 x hx
  · rw [List.mem_singleton.1 hx]; omega
theorem ws_wide (a q : Int) : ∀ (r p : List Int) (w : Int),r.length = p.length → ws a (r ++ [0]) (p ++ [q]) w = ws a r p w
  | [],[],w,_ => by
    simp only [List.nil_append,ws]
    split <;> simp
  | [],y :: p,w,h => by simp at h
  | x :: r,[],w,h => by simp at h
  | x :: r,y :: p,w,h => by
    simp only [List.cons_append,ws]
    exact ws_wide a q r p _ (by simpa using h)
theorem fair_wide {R : List (List Int)} {n : Nat} (H : VGood R n) {p : List Int} (hp : p.length = n) (q : Int) : fairI (widR R) (p ++ [q]) = fairI R p := by
  rw [Bool.eq_iff_iff,fair_iff,fair_iff,widR_len]
  constructor
  · intro h i j hi hj
    have := h i j hi hj
    rw [widR_at R i hi,ws_wide _ _ _ _ _ (by rw [(H.get hi).1,hp]),ws_wide _ _ _ _ _ (by rw [(H.get hi).1,hp])] at this
    exact this
  · intro h i j hi hj
    rw [widR_at R i hi,ws_wide _ _ _ _ _ (by rw [(H.get hi).1,hp]),ws_wide _ _ _ _ _ (by rw [(H.get hi).1,hp])]
    exact h i j hi hj
theorem sum_mul (c : Nat) (f : List Int → Nat) : ∀ l : List (List Int),(l.map fun p => c * f p).sum = c * (l.map f).sum
  | [] => by simp
  | a :: r => by simp only [List.map_cons,List.sum_cons,sum_mul c f r,Nat.mul_add]
theorem sum_same (c : Nat) : ∀ (l : List Nat),(l.map fun _ => c).sum = l.length * c
  | [] => by simp
  | a :: r => by simp only [List.map_cons,List.sum_cons,sum_same c r,List.length_cons,Nat.add_mul,Nat.one_mul]; omega
theorem count_wide {R : List (List Int)} {n : Nat} (H : VGood R n) (hn : n ≤ 5) : countV (widR R) = countV R * (R.length : Int) := by
  rw [count_eq H,count_eq (widR_good H hn),widR_len,sumD_succ]
  have : sumD R.length n (fun p => ((List.range' 0 R.length).map fun j : Nat => if fairI (widR R) (p ++ [(j : Int)]) = true then 1 else 0).sum) = R.length * sumD R.length n fun x => if fairI R x = true then 1 else 0 := by
    rw [sumD_congr R.length n (g := fun p => R.length * (if fairI R p = true then 1 else 0)) fun p hp => ?_]
    · unfold sumD
      exact sum_mul _ _ _
    · have hl := (allD_mem R.length n p hp).1
      have e : ((List.range' 0 R.length).map fun j : Nat => if fairI (widR R) (p ++ [(j : Int)]) = true then 1 else 0) = (List.range' 0 R.length).map fun _ => if fairI R p = true then 1 else 0 := by
        refine List.map_congr_left fun j _ => ?_
        rw [fair_wide H hl]
      rw [e,sum_same,List.length_range']
  rw [this,Int.natCast_mul,Int.mul_comm]
theorem count_le {R : List (List Int)} {n : Nat} (H : VGood R n) : 0 ≤ countV R ∧ countV R ≤ 4096 := by
  rw [count_eq H]
  have key : ∀ t N,N ≤ 4 → (allD N t).length ≤ 4 ^ t := by
    intro t
    induction t with
    | zero => intro N _; simp [allD]
    | succ t ih =>
      intro N hN
      have := ih N hN
      rw [allD,allS,List.length_flatMap]
      have e : ((allD N t).map fun p => ((List.range' 0 N).map fun j : Nat => p ++ [(j : Int)]).length).sum = (allD N t).length * N := by
        generalize allD N t = l
        induction l with
        | nil => simp
        | cons a r ih => rw [List.map_cons,List.sum_cons,ih,List.length_map,List.length_range',List.length_cons,Nat.add_mul,Nat.one_mul,Nat.add_comm]
      rw [e,Nat.pow_succ]
      exact Nat.mul_le_mul this hN
  have h1 := key n R.length H.le4
  have h2 : 4 ^ n ≤ 4 ^ 6 := Nat.pow_le_pow_right (by omega) H.le6
  have h3 : sumD R.length n (fun x => if fairI R x = true then 1 else 0) ≤ (allD R.length n).length := by
    unfold sumD
    rw [← count_sum]
    exact List.countP_le_length
  have h4 : (4 : Nat) ^ 6 = 4096 := rfl
  omega
theorem fair_two {R : List (List Int)} {n : Nat} (H : VGood R n) (hn : n ≤ 5) {l : List Int} (hl : l.length = n) (hr : ∀ x ∈ l,0 ≤ x ∧ x < (R.length : Int)) (hf : fairI R l = true) {i : Nat} (hi : i < R.length) : fairV (widR R) (l ++ [(i : Int)]) = 2 ∧ divE (widR R) (l ++ [(i : Int)]) = 0 := by
  have H2 := widR_good H hn
  have hr2 : ∀ x ∈ l ++ [(i : Int)],0 ≤ x ∧ x < ((widR R).length : Int) := fun x hx => by
    rw [widR_len]
    rcases List.mem_append.1 hx with hx | hx
    · exact hr x hx
    · rw [List.mem_singleton.1 hx]; omega
  have hd := H2.div (o := l ++ [(i : Int)]) (by simp [hl]) hr2
  refine ⟨?_,hd⟩
  have hf2 : fairI (widR R) (l ++ [(i : Int)]) = true := by rw [fair_wide H hl]; exact hf
  have hW : PW (widR R) (l ++ [(i : Int)]) = [] := by
    unfold PW
    rw [outer_nil]
    intro a b ha hb
    have := (fair_iff _ _).1 hf2 a b ha hb
    refine decide_eq_false ?_
    unfold eW
    omega
  have D := (H2.lok (o := l ++ [(i : Int)]) (by simp [hl]) (fun x hx => by have := hr2 x hx; omega)).d
  have hX := pw_nil D (by rw [vals_rowR]; exact hW)
  rw [vals_rowR] at hX
  unfold fairV
  rw [hd,if_neg (by simp),if_neg (by simpa using hX),if_neg (by simpa using hW)]
end Go.Am.Share
