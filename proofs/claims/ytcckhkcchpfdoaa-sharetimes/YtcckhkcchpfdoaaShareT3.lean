import Derived.Test.YtcckhkcchpfdoaaShareT2
import Derived.Test.YtcckhkcchpfdoaaLm10
import Derived.Test.YtcckhkcchpfdoaaAm17
import Derived.Below
import Derived.ChangeSlices
import Derived.Deep.Matrix
import Derived.OpenShut
import Derived.Carry
set_option linter.unusedVariables false
set_option linter.unusedSimpArgs false
set_option maxRecDepth 10000
set_option maxHeartbeats 400000
namespace Go.Am.Share
open Go.Am.G
def Fl (m m' : LMem) : Prop := m'.length = m.length ∧ ∀ (i : Nat) cs w,m[i]? = some ⟨cs,w⟩ → ∃ w',m'[i]? = some ⟨cs,w'⟩
theorem Fl.refl (m : LMem) : Fl m m := ⟨rfl,fun i cs w h => ⟨w,h⟩⟩
theorem Fl.trans {a b c : LMem} (h1 : Fl a b) (h2 : Fl b c) : Fl a c := ⟨h2.1.trans h1.1,fun i cs w h => by
  obtain ⟨w1,e1⟩ := h1.2 i cs w h
  exact h2.2 i cs w1 e1⟩
theorem fl_freeze : ∀ (ids : List Nat) (m : LMem),Fl m (freeze ids m)
  | [],m => by rw [freeze_nil]; exact Fl.refl m
  | i :: r,m => by
    have h1 : Fl m (freeze1 m i) := by
      unfold freeze1
      split
      · rename_i b hb
        refine ⟨by simp,fun j cs w h => ?_⟩
        by_cases c : i = j
        · subst c
          rw [hb] at h
          have := Option.some.inj h
          rw [List.getElem?_set_self (get_lt' hb),this]
          exact ⟨false,rfl⟩
        · rw [List.getElem?_set_ne c]; exact ⟨w,h⟩
      · exact Fl.refl m
    exact h1.trans (fl_freeze r (freeze1 m i))
theorem call_fl {f : Nat} {lf : LFunc} (hC : LP f = some lf) (hm : lf.mode = .P) {args vs : List LV} {ids : List Nat} {m : LMem} (hv : views m args = some (vs,ids)) (hp : LV.pures vs = true) {v : LV} (hc : clF LP f vs [] = some (.P,v,[])) : ∃ m',clF LP f args m = some (.P,v,m') ∧ Fl m m' := by
  rcases call_sh hC hm hv hp hc with h | h
  · exact ⟨m,h,Fl.refl m⟩
  · exact ⟨_,h,fl_freeze ids m⟩
theorem views_ab8 {m : LMem} {a v a' v' : LV} {i1 i2 : List Nat} (h1 : ∀ k,view (k + 12) m a = some (a',i1)) (h2 : ∀ k,view (k + 12) m v = some (v',i2)) (hn : LV.pures [a,v] = false) : views m [a,v] = some ([a',v'],i1 ++ i2) := by
  show viewL 100 m _ = _
  rw [viewL.eq_def]
  simp only [hn,cond_false]
  rw [viewC.eq_def]
  simp only [h1 86]
  rw [viewC.eq_def]
  simp only [h2 85]
  rw [viewC.eq_def]
  simp only [List.append_nil]
theorem views_a8 {m : LMem} {a a' : LV} {i1 : List Nat} (h1 : ∀ k,view (k + 12) m a = some (a',i1)) (hn : LV.pures [a] = false) : views m [a] = some ([a'],i1) := by
  show viewL 100 m _ = _
  rw [viewL.eq_def]
  simp only [hn,cond_false]
  rw [viewC.eq_def]
  simp only [h1 86]
  rw [viewC.eq_def]
  simp only [List.append_nil]
def Sees (m : LMem) (A : LV) (ex : Bool) (R : List (List Int)) : Prop := A.pure = false ∧ ∃ ids,∀ k,view (k + 12) m A = some (VL false ex 1 (R.map rowR),ids)
theorem rowR_lv (R : List (List Int)) : (R.map rowR).map Row.lv = R.map RL := by simp [rowR]
theorem vals_rowR (R : List (List Int)) : vals (R.map rowR) = R := by simp [vals,rowR,Function.comp_def]
theorem sees_val {m : LMem} {b : Nat} {R : List (List Int)} {w : Bool} (h : m[b]? = some ⟨R.map RL,w⟩) : Sees m (SLv b R.length) false R := by
  refine ⟨rfl,[b],fun k => ?_⟩
  have := view_slc (k + 9) m b 0 R.length R.length 1 R.length 1 (R.map RL) w h (by rw [List.drop_zero,List.take_of_length_le (by simp)]; exact rl_pures _) (by simp) (by omega) (Nat.le_refl _)
  rw [List.drop_zero,List.take_of_length_le (by simp)] at this
  rw [show k + 12 = k + 9 + 3 from rfl,this]
  show some (LV.lst false _ 1 R.length (R.map RL),[b]) = some (LV.lst false false 1 (R.map rowR).length ((R.map rowR).map Row.lv),[b])
  rw [rowR_lv,List.length_map]; rfl
theorem viewC_gvs (m : LMem) (R : List (List Int)) (β : Nat → Nat) : ∀ (l : List Nat) (k : Nat),(∀ j ∈ l,R.getD j [] ≠ [] → ∃ w,m[β j]? = some ⟨ints (R.getD j []),w⟩) → ∃ ids,∀ k,l.length + 4 ≤ k → viewC k m (l.map fun j => GV (β j) (R.getD j [])) = some (l.map fun j => RL (R.getD j []),ids)
  | [],k,_ => ⟨[],fun k hk => by
    obtain ⟨k,rfl⟩ : ∃ q,k = q + 1 := ⟨k - 1,by omega⟩
    rw [List.map_nil,viewC.eq_def]; rfl⟩
  | j :: l,k,h => by
    obtain ⟨ids,ih⟩ := viewC_gvs m R β l k (fun x hx => h x (by simp [hx]))
    have hj := h j (by simp)
    obtain ⟨i1,hv⟩ : ∃ i1,∀ k,view (k + 3) m (GV (β j) (R.getD j [])) = some (RL (R.getD j []),i1) := by
      by_cases c : R.getD j [] = []
      · rw [c]; exact ⟨[],fun k => rfl⟩
      · obtain ⟨w,hw⟩ := hj c
        exact ⟨_,fun k => G.view_gv k m (β j) (R.getD j []) w (fun _ => hw)⟩
    refine ⟨i1 ++ ids,fun k hk => ?_⟩
    rw [List.length_cons] at hk
    obtain ⟨k,rfl⟩ : ∃ q,k = q + 4 := ⟨k - 4,by omega⟩
    rw [List.map_cons,viewC.eq_def]
    simp only [hv (k),ih (k + 3) (by omega),List.map_cons]
theorem sees_more {m : LMem} {q : Nat} {R : List (List Int)} {β : Nat → Nat} {w : Bool} (hR : R.length ≤ 4) (h : m[q]? = some ⟨celM R β R.length R.length,w⟩) (hr : ∀ j,j < R.length → R.getD j [] ≠ [] → ∃ w,m[β j]? = some ⟨ints (R.getD j []),w⟩) : Sees m (SLz q R.length) true R := by
  have hc : celM R β R.length R.length = (List.range R.length).map fun j => GV (β j) (R.getD j []) := by
    unfold celM
    refine List.map_congr_left fun j hj => ?_
    rw [if_pos (List.mem_range.1 hj)]
  have hR' : ((List.range R.length).map fun j => RL (R.getD j [])) = R.map RL := by
    apply List.ext_getElem?
    intro i
    by_cases hi : i < R.length
    · rw [List.getElem?_map,List.getElem?_range hi,List.getElem?_map,List.getElem?_eq_getElem hi]
      simp [List.getD_eq_getElem?_getD,hi]
    · rw [List.getElem?_eq_none (by simp; omega),List.getElem?_eq_none (by simp; omega)]
  obtain ⟨ids,hv⟩ := viewC_gvs m R β (List.range R.length) 0 (fun j hj => hr j (List.mem_range.1 hj))
  rw [hR',List.length_range] at hv
  rw [← hc] at hv
  have hl := celM_len R β R.length R.length
  have hgo : ∃ ids',∀ k,viewL (k + 11) m (celM R β R.length R.length) = some (R.map RL,ids') := by
    by_cases hp : LV.pures (celM R β R.length R.length) = true
    · refine ⟨[],fun k => ?_⟩
      rw [viewL_pures _ _ _ hp]
      congr 2
      apply List.ext_getElem?
      intro i
      by_cases hi : i < R.length
      · rw [celM_at _ _ _ _ _ hi,if_pos hi,List.getElem?_map,List.getElem?_eq_getElem hi]
        have hgi : R.getD i [] = R[i] := by rw [List.getD_eq_getElem?_getD,List.getElem?_eq_getElem hi]; rfl
        rw [hgi]
        by_cases c : R[i] = []
        · rw [c]; rfl
        · exfalso
          have hmem : GV (β i) R[i] ∈ celM R β R.length R.length := by
            have := celM_at R β R.length R.length i hi
            rw [if_pos hi,hgi] at this
            exact List.mem_of_getElem? this
          have key : ∀ (l : List LV),LV.pures l = true → ∀ v ∈ l,v.pure = true := by
            intro l
            induction l with
            | nil => intro _ v hv; cases hv
            | cons a l ih =>
              intro h v hv
              simp only [LV.pures,Bool.and_eq_true] at h
              rcases List.mem_cons.1 hv with rfl | hv
              · exact h.1
              · exact ih h.2 v hv
          have := key _ hp _ hmem
          rw [GV,if_neg c] at this
          simp [LV.pure] at this
      · rw [List.getElem?_eq_none (by rw [hl]; omega),List.getElem?_eq_none (by simp; omega)]
    · refine ⟨ids,fun k => ?_⟩
      have hne : celM R β R.length R.length ≠ [] := fun e => by rw [e] at hp; exact hp rfl
      obtain ⟨a,r,e⟩ := List.exists_cons_of_ne_nil hne
      have hp' : LV.pures (celM R β R.length R.length) = false := by simpa using hp
      have hv' := hv (k + 10) (by omega)
      rw [e] at hp' hv' ⊢
      rw [viewL.eq_def]
      simp only [hp',cond_false]
      exact hv'
  obtain ⟨ids',hgo⟩ := hgo
  refine ⟨rfl,q :: ids',fun k => ?_⟩
  have hlen : (celM R β R.length R.length).length = R.length := hl
  rw [view.eq_def]
  simp only [h,hlen,nbeq,nble,Nat.mul_one,Nat.zero_add,Nat.le_refl,decide_true,Bool.and_self,cond_true,List.drop_zero]
  rw [List.take_of_length_le (by rw [hlen]; exact Nat.le_refl _),hgo k]
  show some (LV.lst false _ 1 R.length (R.map RL),q :: ids') = some (LV.lst false true 1 (R.map rowR).length ((R.map rowR).map Row.lv),q :: ids')
  rw [rowR_lv,List.length_map]
def Shows (m : LMem) (v : LV) (l : List Int) : Prop := ∃ ids,∀ k,view (k + 12) m v = some (RL l,ids)
theorem shows_gv {m : LMem} {b : Nat} {l : List Int} (h : l ≠ [] → ∃ w,m[b]? = some ⟨ints l,w⟩) : Shows m (GV b l) l := by
  by_cases c : l = []
  · subst c; exact ⟨[],fun k => rfl⟩
  · obtain ⟨w,hw⟩ := h c
    exact ⟨_,fun k => G.view_gv (k + 9) m b l w (fun _ => hw)⟩
theorem call_1 {f : Nat} {lf : LFunc} (hC : LP f = some lf) (hm : lf.mode = .P) {m : LMem} {A : LV} {ex : Bool} {R : List (List Int)} (h : Sees m A ex R) {v : LV} (hc : clF LP f [VL false ex 1 (R.map rowR)] [] = some (.P,v,[])) : ∃ m',clF LP f [A] m = some (.P,v,m') ∧ Fl m m' := by
  obtain ⟨hp,ids,hv⟩ := h
  exact call_fl hC hm (views_a8 hv (by simp [LV.pures,hp])) (by simp only [LV.pures,LV.pure,Bool.and_self]) hc
theorem call_2 {f : Nat} {lf : LFunc} (hC : LP f = some lf) (hm : lf.mode = .P) {m : LMem} {A L : LV} {ex : Bool} {R : List (List Int)} {l : List Int} (h : Sees m A ex R) (hl : Shows m L l) {v : LV} (hc : clF LP f [VL false ex 1 (R.map rowR),RL l] [] = some (.P,v,[])) : ∃ m',clF LP f [A,L] m = some (.P,v,m') ∧ Fl m m' := by
  obtain ⟨hp,ids,hv⟩ := h
  obtain ⟨ids2,hv2⟩ := hl
  exact call_fl hC hm (views_ab8 hv hv2 (by simp [LV.pures,hp])) (by simp only [LV.pures,LV.pure,Bool.and_self]) hc
theorem call_2p {f : Nat} {lf : LFunc} (hC : LP f = some lf) (hm : lf.mode = .P) {m : LMem} {A L : LV} {ex : Bool} {R : List (List Int)} (h : Sees m A ex R) (hl : L.pure = true) {v : LV} (hc : clF LP f [VL false ex 1 (R.map rowR),L] [] = some (.P,v,[])) : ∃ m',clF LP f [A,L] m = some (.P,v,m') ∧ Fl m m' := by
  obtain ⟨hp,ids,hv⟩ := h
  exact call_fl hC hm (views_ab8 hv (fun k => view_pure (k + 10) m L hl) (by simp [LV.pures,hp])) (by simp only [LV.pures,LV.pure,hl,Bool.and_self]) hc
end Go.Am.Share
set_option linter.unusedVariables false
set_option linter.unusedSimpArgs false
set_option maxRecDepth 10000
set_option maxHeartbeats 1000000
namespace Go.Am.Share
open Go.Am.G
structure VGood (V : List (List Int)) (n : Nat) : Prop where
  pos : 0 < V.length
  le4 : V.length ≤ 4
  le6 : n ≤ 6
  row : ∀ v ∈ V,v.length = n ∧ Ok20 v
theorem VGood.get {V : List (List Int)} {n : Nat} (H : VGood V n) {i : Nat} (hi : i < V.length) : (V.getD i []).length = n ∧ Ok20 (V.getD i []) := by
  rw [List.getD_eq_getElem?_getD,List.getElem?_eq_getElem hi]
  exact H.row _ (List.getElem_mem hi)
theorem VGood.chk {V : List (List Int)} {n : Nat} (H : VGood V n) : chkV V = 0 := by
  have h0 := H.get H.pos
  have h1 := H.pos
  have h2 := H.le4
  have h3 := H.le6
  unfold chkV
  rw [if_neg (by omega),if_neg (by omega),h0.1]
  have key : ∀ vs : List (List Int),(∀ v ∈ vs,v.length = n ∧ Ok20 v) → rowsChk n vs = 0 := by
    intro vs
    induction vs with
    | nil => intro _; rfl
    | cons v vs ih =>
      intro h
      obtain ⟨a,b⟩ := h v (by simp)
      rw [rowsChk,if_neg (by omega),if_neg,ih fun x hx => h x (by simp [hx])]
      rw [Bool.not_eq_true,List.any_eq_false]
      intro x hx
      have := b x hx
      simp [inB]; omega
  exact key _ H.row
theorem VGood.div {V : List (List Int)} {n : Nat} (H : VGood V n) {o : List Int} (ho : o.length = n) (hr : ∀ x ∈ o,0 ≤ x ∧ x < (V.length : Int)) : divE V o = 0 := by
  have h0 := H.get H.pos
  unfold divE
  rw [H.chk,if_neg (by simp),if_neg (by omega),if_neg]
  rw [Bool.not_eq_true,List.any_eq_false]
  intro x hx
  have := hr x hx
  simp [inB]; omega
theorem VGood.inn {V : List (List Int)} {n : Nat} (H : VGood V n) {o : List Int} (ho : o.length < 1000) : In (V.map rowR) (decide (o = [])) (bif decide (o = []) then 0 else 1) o where
  hl := by rw [List.length_map]; have := H.le4; omega
  hr r hr := by
    obtain ⟨v,hv,rfl⟩ := List.mem_map.1 hr
    have := (H.row v hv).1
    have := H.le6
    show v.length < 1000000
    omega
  ho := by omega
  hsz := by by_cases c : o = [] <;> simp [c]
  hnl := by simp
theorem VGood.lok {V : List (List Int)} {n : Nat} (H : VGood V n) {o : List Int} (ho : o.length = n) (hr : ∀ x ∈ o,-1 ≤ x ∧ x < (V.length : Int)) : LOk (V.map rowR) o where
  pos := by rw [List.length_map]; exact H.pos
  le4 := by rw [List.length_map]; exact H.le4
  len i h := by
    rw [List.getElem_map]
    show o.length = (V[i]'(by simpa using h)).length
    rw [(H.row _ (List.getElem_mem _)).1,ho]
  ok i h := by
    rw [List.getElem_map]
    exact (H.row _ (List.getElem_mem (by simpa using h))).2
  le6 := by have := H.le6; omega
  own x hx := by rw [List.length_map]; exact hr x hx
theorem VGood.sizes {V : List (List Int)} {n : Nat} (H : VGood V n) : (V.map rowR).length < 1000000 ∧ ∀ r ∈ V.map rowR,r.l.length < 1000000 := by
  refine ⟨by rw [List.length_map]; have := H.le4; omega,fun r hr => ?_⟩
  obtain ⟨v,hv,rfl⟩ := List.mem_map.1 hr
  have := (H.row v hv).1
  have := H.le6
  show v.length < 1000000
  omega
theorem rowsM_good (w : List Nat) (M n r : Nat) (hM : M ≤ 20) (hn : n ≤ 6) (h1 : 1 ≤ r) (h4 : r ≤ 4) : VGood (rowsM w M n r) n := by
  have hl := rowsM_len w M n r
  refine ⟨by omega,by omega,hn,fun v hv => ?_⟩
  obtain ⟨i,_,rfl⟩ := List.mem_map.1 hv
  exact ⟨rowL_len _ _ _,rowL_20 _ _ _ hM⟩
theorem rowsM_le (w : List Nat) (M n r : Nat) : ∀ v ∈ rowsM w M n r,∀ x ∈ v,0 ≤ x ∧ x ≤ (M : Int) := by
  intro v hv x hx
  obtain ⟨i,_,rfl⟩ := List.mem_map.1 hv
  obtain ⟨j,_,rfl⟩ := List.mem_map.1 hx
  have := Nat.mod_lt ((cut6 w i).getD j 0) (show 0 < M + 1 by omega)
  omega
theorem mulV_good {V : List (List Int)} {n : Nat} (H : VGood V n) (h6 : ∀ v ∈ V,∀ x ∈ v,0 ≤ x ∧ x ≤ 6) {p : Nat} (hp : p < V.length) {t : Int} (ht : 0 < t) (ht3 : t ≤ 3) : VGood (mulV V p t) n := by
  refine ⟨by rw [mulV_len]; exact H.pos,by rw [mulV_len]; exact H.le4,H.le6,fun v hv => ?_⟩
  rcases List.mem_or_eq_of_mem_set hv with h | h
  · exact H.row v h
  · have hg : V.getD p [] ∈ V := by rw [List.getD_eq_getElem?_getD,List.getElem?_eq_getElem hp]; exact List.getElem_mem hp
    rw [h]
    refine ⟨by rw [mulR_len]; exact (H.row _ hg).1,fun x hx => ?_⟩
    obtain ⟨y,hy,rfl⟩ := List.mem_map.1 hx
    have hy := h6 _ hg y hy
    have m1 : y * t ≤ 6 * 3 := Int.mul_le_mul hy.2 ht3 (by omega) (by omega)
    have m0 : 0 ≤ y * t := Int.mul_nonneg hy.1 (by omega)
    omega
theorem ordE_nodup' (N : Int) : ∀ (l pre : List Int),(∀ x ∈ l,0 ≤ x ∧ x < N) → (pre ++ l).Nodup → ordE N pre l = 0
  | [],pre,_,_ => rfl
  | x :: r,pre,h,hn => by
    have h0 := h x (by simp)
    rw [ordE,if_neg (by unfold inB; simp; omega),if_neg (fun hm => by
      rw [List.nodup_append] at hn
      exact hn.2.2 x hm x (by simp) rfl)]
    exact ordE_nodup' N r (pre ++ [x]) (fun y hy => h y (by simp [hy])) (by rw [List.append_assoc]; exact hn)
theorem orL_lt (p r k : Nat) (hr : 0 < r) : ∀ x ∈ orL p r k,0 ≤ x ∧ x < (r : Int) := fun x hx => by
  obtain ⟨i,_,rfl⟩ := List.mem_map.1 hx
  have := Nat.mod_lt (p + i) hr
  omega
theorem orL_nodup (p r : Nat) : (orL p r r).Nodup := by
  unfold orL
  rw [List.nodup_iff_pairwise_ne,List.pairwise_map]
  refine List.Pairwise.imp_of_mem ?_ (List.pairwise_lt_range (n := r))
  intro i j hi hj hij e
  have hi := List.mem_range.1 hi
  have hj := List.mem_range.1 hj
  have e : (p + i) % r = (p + j) % r := by omega
  have h1 := Nat.div_add_mod (p + i) r
  have h2 := Nat.div_add_mod (p + j) r
  have h3 : r * ((p + j) / r) = r * ((p + i) / r) + (j - i) := by omega
  have h4 : r * ((p + i) / r) ≤ r * ((p + j) / r) := by omega
  have h5 : (p + i) / r < (p + j) / r := by
    refine Nat.lt_of_mul_lt_mul_left (a := r) ?_
    omega
  have h6 : r * ((p + i) / r + 1) ≤ r * ((p + j) / r) := Nat.mul_le_mul_left r h5
  rw [Nat.mul_add,Nat.mul_one] at h6
  omega
theorem mostF_mem (V : List (List Int)) : ∀ (L : List (List Int)) (b : List Int),mostF V b L = b ∨ mostF V b L ∈ L
  | [],b => .inl rfl
  | x :: L,b => by
    rw [mostF]
    rcases mostF_mem V L (if gtP (prodO V x) (prodO V b) then x else b) with h | h
    · rw [h]
      split
      · exact .inr (by simp)
      · exact .inl rfl
    · exact .inr (by simp [h])
theorem mostV_ok {V : List (List Int)} {n : Nat} (H : VGood V n) : (mostV V).length = n ∧ ∀ x ∈ mostV V,0 ≤ x ∧ x < (V.length : Int) := by
  unfold mostV
  rw [if_pos H.chk,(H.get H.pos).1]
  have hm := allD_mem V.length n
  cases hA : allD V.length n with
  | nil =>
    exfalso
    have key : ∀ t,allD V.length t ≠ [] := by
      intro t
      induction t with
      | zero => simp [allD]
      | succ t ih =>
        obtain ⟨a,r,e⟩ := List.exists_cons_of_ne_nil ih
        intro h
        have : ∃ q,q ∈ allD V.length (t + 1) := by
          simp only [allD,allS,e]
          have := H.pos
          refine ⟨_,List.mem_flatMap.2 ⟨a,by simp,List.mem_map.2 ⟨0,by simp [List.mem_range'_1]; omega,rfl⟩⟩⟩
        obtain ⟨q,hq⟩ := this
        rw [h] at hq; cases hq
    exact key n hA
  | cons b r =>
    rw [hA] at hm
    show (mostF V b r).length = n ∧ _
    rcases mostF_mem V r b with h | h
    · have := hm (mostF V b r) (by rw [h]; simp)
      exact this
    · exact hm (mostF V b r) (by simp [h])
end Go.Am.Share
set_option linter.unusedVariables false
set_option linter.unusedSimpArgs false
set_option maxRecDepth 10000
set_option maxHeartbeats 1000000
namespace Go.Am.Share
open Go.Am.G
theorem most_times {V : List (List Int)} {n : Nat} (H : VGood V n) (h6 : ∀ v ∈ V,∀ x ∈ v,0 ≤ x ∧ x ≤ 6) {p : Nat} (hp : p < V.length) {t : Int} (ht : 0 < t) (ht3 : t ≤ 3)
    (hall : ((List.range' 0 V.length).all fun i => decide (0 < ws (i : Int) (V.getD i []) (mostV V) 0)) = true) : mostV (mulV V p t) = mostV V := by
  have H' := mulV_good H h6 hp ht ht3
  have hbd : ∀ (W : List (List Int)),VGood W n → ∀ o,∀ w ∈ ownL W o 0 W.length,w ≤ 1000 := fun W HW o w hw => by
    simp only [ownL,List.mem_map,List.mem_range'_1] at hw
    obtain ⟨i,hi,rfl⟩ := hw
    have h := HW.get (show i < W.length by omega)
    have := ws_bound (i : Int) (W.getD i []) o 0 h.2 (by omega)
    have := HW.le6
    omega
  have e0 : ∀ W,VGood W n → mostV W = match allD W.length n with | [] => [] | b :: r => mostF W b r := fun W HW => by
    unfold mostV
    rw [if_pos HW.chk,(HW.get HW.pos).1]
    cases allD W.length n <;> rfl
  have hB : cnt (ownL V (mostV V) 0 V.length) = (V.length : Int) := by
    have := (cnt_full (ownL V (mostV V) 0 V.length)).2 fun x hx => by
      simp only [ownL,List.mem_map,List.mem_range'_1] at hx
      obtain ⟨i,hi,rfl⟩ := hx
      have := List.all_eq_true.1 hall i (by rw [List.mem_range'_1]; omega)
      exact of_decide_eq_true this
    rwa [ownL_length'] at this
  rw [e0 _ H',mulV_len]
  rw [e0 _ H] at hB ⊢
  cases hA : allD V.length n with
  | nil => rfl
  | cons b r =>
    rw [hA] at hB
    refine most_mul V (mulV V p t) V.length (fun o => ownL V o 0 V.length) (fun o => ownL (mulV V p t) o 0 V.length) (fun o => prodO_eq o H.le4 (hbd V H o)) (fun o => ?_) (fun o => ownL_length' _ _ _ _) ht (fun o => ?_) (fun o hc => ?_) r b b (.inr rfl) hB
    · have := prodO_eq (V := mulV V p t) o (by rw [mulV_len]; exact H.le4) (hbd _ H' o)
      rw [mulV_len] at this
      exact this
    · show cnt (ownL (mulV V p t) o 0 V.length) = cnt (ownL V o 0 V.length)
      rw [ownL_mul V p hp t o]
      exact cnt_set ht _ p
    · have hc : cnt (ownL V o 0 V.length) = (V.length : Int) := hc
      show prd (ownL (mulV V p t) o 0 V.length) = prd (ownL V o 0 V.length) * t
      rw [ownL_mul V p hp t o]
      refine prd_set ht _ p (by rw [ownL_length']; exact hp) ((cnt_full _).1 (by rw [ownL_length']; exact hc))
theorem gv_congr {l l' : List Int} (h : l.length = l'.length) (b : Nat) : GV b l = GV b l' := by
  by_cases c : l = []
  · subst c
    have : l' = [] := List.length_eq_zero_iff.1 (by simpa using h.symm)
    rw [this]
  · have c' : l' ≠ [] := fun e => by rw [e] at h; exact c (List.length_eq_zero_iff.1 (by simpa using h))
    rw [GV,GV,if_neg c,if_neg c',h]
structure TS (R R' : List (List Int)) (b q bl bo : Nat) (β : Nat → Nat) (o ord : List Int) (m : LMem) : Prop where
  v : ∃ w,m[b]? = some ⟨R.map RL,w⟩
  c : ∃ w,m[q]? = some ⟨celM R' β R'.length R'.length,w⟩
  rows : ∀ j,j < R'.length → R'.getD j [] ≠ [] → ∃ w,m[β j]? = some ⟨ints (R'.getD j []),w⟩
  l : o ≠ [] → ∃ w,m[bl]? = some ⟨ints o,w⟩
  ord : ord ≠ [] → ∃ w,m[bo]? = some ⟨ints ord,w⟩
theorem TS.fl {R R' : List (List Int)} {b q bl bo : Nat} {β : Nat → Nat} {o ord : List Int} {m m' : LMem} (T : TS R R' b q bl bo β o ord m) (h : Fl m m') : TS R R' b q bl bo β o ord m' := by
  refine ⟨?_,?_,fun j hj hn => ?_,fun hn => ?_,fun hn => ?_⟩
  · obtain ⟨w,e⟩ := T.v; exact h.2 _ _ _ e
  · obtain ⟨w,e⟩ := T.c; exact h.2 _ _ _ e
  · obtain ⟨w,e⟩ := T.rows j hj hn; exact h.2 _ _ _ e
  · obtain ⟨w,e⟩ := T.l hn; exact h.2 _ _ _ e
  · obtain ⟨w,e⟩ := T.ord hn; exact h.2 _ _ _ e
theorem TS.val {R R' : List (List Int)} {b q bl bo : Nat} {β : Nat → Nat} {o ord : List Int} {m : LMem} (T : TS R R' b q bl bo β o ord m) : Sees m (SLv b R.length) false R := by
  obtain ⟨w,e⟩ := T.v; exact sees_val e
theorem TS.more {R R' : List (List Int)} {b q bl bo : Nat} {β : Nat → Nat} {o ord : List Int} {m : LMem} (T : TS R R' b q bl bo β o ord m) (h4 : R'.length ≤ 4) : Sees m (SLz q R'.length) true R' := by
  obtain ⟨w,e⟩ := T.c; exact sees_more h4 e T.rows
theorem times_in (ns : List Int) (hl : ns.length = 26) (hb : ∀ n ∈ ns,0 ≤ n ∧ n < 256) (os : List Int) (hol : os.length = 6) (hob : ∀ n ∈ os,0 ≤ n ∧ n < 256) (one : Int) (h1 : 0 ≤ one ∧ one < 256) (tms : Int) (h2 : 0 ≤ tms ∧ tms < 256) :
    clF LP n_law07_ShareTimes [.agg (ns.map (LV.int .u8)),.agg (os.map (LV.int .u8)),.int .u8 one,.int .u8 tms] [] = some (.P,.bool true,[]) := by
  obtain ⟨w,rfl,hwb⟩ := bytes_nat ns hb
  obtain ⟨cs,rfl,hcb⟩ := bytes_nat os hob
  obtain ⟨s1,rfl⟩ := Int.eq_ofNat_of_zero_le h1.1
  obtain ⟨s,rfl⟩ := Int.eq_ofNat_of_zero_le h2.1
  have hs1 : s1 < 256 := by omega
  have hs : s < 256 := by omega
  rw [ci_ln] at hl hol
  show clF LP n_law07_ShareTimes [.agg (bys w),.agg (bys cs),.int .u8 (s1 : Int),.int .u8 (s : Int)] [] = some (.P,.bool true,[])
  obtain ⟨b,m1,hmade,hm1,hbge,hk1⟩ := made_o w hl hwb 4 5 6 (by omega) (by omega) (by omega) [⟨bys w,true⟩,⟨bys cs,true⟩]
  have hr := Nat.mod_lt (w.getD 0 0) (show 0 < 4 by omega)
  have hn := Nat.mod_lt (w.getD 1 0) (show 0 < 5 + 1 by omega)
  have hbl : (bys w).length = 26 := by simp [hl]
  have hbl2 : (bys cs).length = 6 := by simp [hol]
  have htk : (bys w).take 26 = bys w := List.take_of_length_le (by omega)
  have hps : LV.pures (bys w) = true := pures_int _ _
  have hps2 : LV.pures (bys cs) = true := pures_int _ _
  generalize hn' : w.getD 1 0 % (5 + 1) = n at *
  generalize hr' : 1 + w.getD 0 0 % 4 = r at *
  have hr1 : 1 ≤ r := by omega
  have hr4 : r ≤ 4 := by omega
  have hG := rowsM_good w 6 n r (by omega) (by omega) hr1 hr4
  have hG6 := rowsM_le w 6 n r
  have hrl := rowsM_len w 6 n r
  generalize rowsM w 6 n r = R at *
  have hbge2 : 2 ≤ b := hbge
  have hbm := get_lt' hm1
  have hp : s1 % r < R.length := by rw [hrl]; exact Nat.mod_lt _ (by omega)
  generalize hp' : s1 % r = p at *
  have ht1 : (0 : Int) < ((1 + s % 3 : Nat) : Int) := by omega
  have ht3 : ((1 + s % 3 : Nat) : Int) ≤ 3 := by have := Nat.mod_lt s (show 0 < 3 by omega); omega
  have hG' := mulV_good hG hG6 hp ht1 ht3
  -- the copies
  have hz : zerosL [LV.lst true true 0 0 []] r = celM R (fun _ => 0) r 0 := by
    apply List.ext_getElem?
    intro i
    by_cases c : i < r
    · rw [celM_at _ _ _ _ _ c]; simp [zerosL,c,Nat.mod_one]
    · rw [List.getElem?_eq_none (by simp [zerosL]; omega),List.getElem?_eq_none (by rw [celM_len]; omega)]
  obtain ⟨m2,hm2⟩ : ∃ m2,m2 = m1 ++ [(⟨celM R (fun _ => 0) r 0,true⟩ : LBlk)] := ⟨_,rfl⟩
  have hM2 : MoreAt m2 m1.length R R.length 0 (fun _ => 0) := ⟨by rw [hm2,hrl]; simp,fun j hj => by omega,fun j j' hj => by omega⟩
  have hm2b : m2[b]? = some ⟨R.map RL,true⟩ := by rw [hm2,List.getElem?_append_left hbm]; exact hm1
  obtain ⟨m3,β,hex0,hM3,hk3⟩ := times_L0 R hG.le4 (fun j => by
    by_cases c : j < R.length
    · rw [(hG.get c).1]; omega
    · rw [List.getD_eq_getElem?_getD,List.getElem?_eq_none (by omega)]; simp) b m1.length hbm (.int .u8 (s1 : Int)) (.int .u8 (s : Int)) (.ptr 1 0 6) R.length 0 m2 (fun _ => 0) (by omega) hM2 hm2b
  -- one of them is multiplied
  have hrow := hG.get hp
  have hrow6 : ∀ x ∈ R.getD p [],0 ≤ x ∧ x ≤ 6 := by
    rw [List.getD_eq_getElem?_getD,List.getElem?_eq_getElem hp]
    exact hG6 _ (List.getElem_mem hp)
  have hcell : (celM R β R.length R.length)[p]? = some (GV (β p) (R.getD p [])) := by rw [celM_at _ _ _ _ _ hp,if_pos hp]
  have hex1 := times_L1 (R.getD p []) (by rw [hrow.1]; omega) hrow6 s hs (celM R β R.length R.length) R.length p m1.length (β p) hp (celM_len _ _ _ _) hcell (fun c => by have := (hM3.row p hp c).1; omega) (.ptr 1 0 6) (SLv b R.length) (R.getD p []).length 0 m3 (by omega) hM3.cells (fun c => by
    have := (hM3.row p hp c).2
    rw [this]; simp [halfR])
  obtain ⟨m4,hm4⟩ : ∃ m4,m4 = if R.getD p [] = [] then m3 else m3.set (β p) ⟨ints (mulR ((1 + s % 3 : Nat) : Int) (R.getD p [])),true⟩ := ⟨_,rfl⟩
  rw [← hm4] at hex1
  have hlen' : ∀ j,((mulV R p ((1 + s % 3 : Nat) : Int)).getD j []).length = (R.getD j []).length := fun j => by
    rw [mulV_at R p hp]
    split
    · rename_i e; rw [mulR_len,e]
    · rfl
  have hcel' : celM (mulV R p ((1 + s % 3 : Nat) : Int)) β R.length R.length = celM R β R.length R.length := by
    unfold celM
    refine List.map_congr_left fun j hj => ?_
    rw [gv_congr (hlen' j)]
  have hq3 := get_lt' hM3.cells
  have h4k : ∀ i,i ≤ m1.length → m4[i]? = m3[i]? := fun i hi => by
    rw [hm4]
    split
    · rfl
    · rename_i c
      have := (hM3.row p hp c).1
      rw [List.getElem?_set_ne (by omega)]
  have h4rows : ∀ j,j < R.length → (mulV R p ((1 + s % 3 : Nat) : Int)).getD j [] ≠ [] → ∃ w,m4[β j]? = some ⟨ints ((mulV R p ((1 + s % 3 : Nat) : Int)).getD j []),w⟩ := by
    intro j hj hne
    have hne' : R.getD j [] ≠ [] := fun e => hne (List.length_eq_zero_iff.1 (by rw [hlen' j,e]; rfl))
    have hrj := hM3.row j hj hne'
    rw [mulV_at R p hp]
    by_cases c : j = p
    · subst c
      rw [if_pos rfl,hm4,if_neg hne',List.getElem?_set_self (get_lt' hrj.2)]
      exact ⟨true,rfl⟩
    · rw [if_neg c,hm4]
      split
      · exact ⟨true,hrj.2⟩
      · rename_i c2
        rw [List.getElem?_set_ne (fun e => c (hM3.inj p j hp hj c2 hne' e).symm)]
        exact ⟨true,hrj.2⟩
  have h4b : m4[b]? = some ⟨R.map RL,true⟩ := by rw [h4k b (by omega),hk3 b hbm]; exact hm2b
  have h41 : m4[1]? = some ⟨bys cs,true⟩ := by
    rw [h4k 1 (by omega),hk3 1 (by omega),hm2,List.getElem?_append_left (by omega),hk1 1 (by simp)]; rfl
  have h4q : m4[m1.length]? = some ⟨celM (mulV R p ((1 + s % 3 : Nat) : Int)) β R.length R.length,true⟩ := by rw [h4k _ (Nat.le_refl _),hcel']; exact hM3.cells
  -- owners and order
  have hex2 := times_L2 cs hol hcb m4 h41 b r ⟨by omega,hr4⟩ (SLz m1.length R.length) (.int .i64 (p : Int)) (.lst true true 0 0 []) n (by omega) n 0 (by omega)
  have e0 : owL cs r 0 = [] := rfl
  rw [e0,GV_nil,GM_nil,List.append_nil] at hex2
  have hol' := owL_len cs r n
  have hown := owL_lt cs r n (by omega)
  generalize owL cs r n = o at *
  have hex3 := times_L3 (m4 ++ GM o) b r p ⟨by omega,hr4⟩ (by omega) (SLz m1.length R.length) (GV m4.length o) r 0 (by omega)
  have e1 : orL p r 0 = [] := rfl
  rw [e1,GV_nil,GM_nil,List.append_nil] at hex3
  have hordl := orL_len p r r
  have hordr := orL_lt p r r (by omega)
  have hordn := orL_nodup p r
  generalize orL p r r = ord at *
  obtain ⟨M0,hM0⟩ : ∃ M0,M0 = m4 ++ GM o ++ GM ord := ⟨_,rfl⟩
  rw [← hM0] at hex3
  have up : ∀ i,i < m4.length → M0[i]? = m4[i]? := fun i hi => by rw [hM0,List.getElem?_append_left (by simp; omega),List.getElem?_append_left hi]
  have T0 : TS R (mulV R p ((1 + s % 3 : Nat) : Int)) b m1.length m4.length (m4 ++ GM o).length β o ord M0 := by
    refine ⟨⟨true,by rw [up b (get_lt' h4b)]; exact h4b⟩,⟨true,by rw [up _ (get_lt' h4q),mulV_len]; exact h4q⟩,fun j hj hne => ?_,fun c => ⟨true,?_⟩,fun c => ⟨true,?_⟩⟩
    · rw [mulV_len] at hj
      obtain ⟨w,hw⟩ := h4rows j hj hne
      exact ⟨w,by rw [up _ (get_lt' hw)]; exact hw⟩
    · have : (m4 ++ GM o)[m4.length]? = some ⟨ints o,true⟩ := by rw [GM,if_neg c]; simp
      rw [hM0,List.getElem?_append_left (get_lt' this)]; exact this
    · have hg : GM ord = [⟨ints ord,true⟩] := by rw [GM,if_neg c]
      rw [hM0,hg]; simp
  -- plain facts
  have hchk := hG.chk
  have hchk' := hG'.chk
  have hdiv : divE R o = 0 := hG.div (by omega) (fun x hx => by have := hown x hx; omega)
  have hdiv' : divE (mulV R p ((1 + s % 3 : Nat) : Int)) o = 0 := hG'.div (by omega) (fun x hx => by rw [mulV_len]; have := hown x hx; omega)
  have hte : turnE R ord = 0 := by
    unfold turnE
    rw [hchk,if_neg (by simp),if_neg (by omega)]
    exact ordE_nodup' _ _ _ (fun x hx => by have := hordr x hx; omega) (by simpa using hordn)
  have hte' : turnE (mulV R p ((1 + s % 3 : Nat) : Int)) ord = 0 := by
    unfold turnE at hte ⊢
    rw [hchk',if_neg (by simp),mulV_len]
    rw [hchk,if_neg (by simp)] at hte
    exact hte
  have hR00 : ((mulV R p ((1 + s % 3 : Nat) : Int)).getD 0 []).length = (R.getD 0 []).length := hlen' 0
  have hVn : ∀ i,∀ x ∈ R.getD i [],0 ≤ x := fun i x hx => by
    by_cases c : i < R.length
    · exact ((hG.get c).2 x hx).1
    · rw [List.getD_eq_getElem?_getD,List.getElem?_eq_none (by omega)] at hx; cases hx
  have q1 : envyV (mulV R p ((1 + s % 3 : Nat) : Int)) o = envyV R o := by unfold envyV; rw [hdiv,hdiv',PW_mul R p hp ht1]
  have q2 : fairV (mulV R p ((1 + s % 3 : Nat) : Int)) o = fairV R o := by unfold fairV; rw [hdiv,hdiv',PW_mul R p hp ht1,PX_mul R p hp ht1]
  have q3 : turnV (mulV R p ((1 + s % 3 : Nat) : Int)) ord = turnV R ord := by unfold turnV; rw [hte,hte',if_pos rfl,if_pos rfl,hR00,trn_mul R p hp ht1 hVn]
  have q4 : ringsV (mulV R p ((1 + s % 3 : Nat) : Int)) = ringsV R := by unfold ringsV; rw [hchk,hchk',if_pos rfl,if_pos rfl,hR00,ringsI_mul R p hp ht1]
  have q5 : fairs (mulV R p ((1 + s % 3 : Nat) : Int)) = fairs R := by
    unfold fairs
    rw [mulV_len,hR00]
    exact List.filter_congr fun x _ => fairI_mul R p hp ht1 x
  have q6 : freeV (mulV R p ((1 + s % 3 : Nat) : Int)) = freeV R := by unfold freeV; rw [hchk,hchk',q5]
  have q7 : freeE (mulV R p ((1 + s % 3 : Nat) : Int)) = freeE R := by unfold freeE; rw [hchk,hchk',q5]
  have hmost := mostV_ok hG
  have q8 := most_times hG hG6 hp ht1 ht3
  have hml' : (mulV R p ((1 + s % 3 : Nat) : Int)).length = R.length := mulV_len _ _ _
  have hm4' : (mulV R p ((1 + s % 3 : Nat) : Int)).length ≤ 4 := by rw [hml']; exact hG.le4
  generalize mulV R p ((1 + s % 3 : Nat) : Int) = R' at *
  -- the calls
  have sz := hG.sizes
  have sz' := hG'.sizes
  have vR := vals_rowR R
  have vR' := vals_rowR R'
  have hRLo : ∀ l : List Int,RL l = IL (decide (l = [])) (decide (l = [])) (bif decide (l = []) then 0 else 1) l := fun _ => rfl
  obtain ⟨M1,k1,f1⟩ := call_2 lp_share_Envy rfl T0.val (shows_gv T0.l) (by rw [hRLo]; exact envyP_c false false _ _ 1 _ (R.map rowR) o (hG.inn (by omega)) [])
  have T1 := T0.fl f1
  obtain ⟨M2,k2,f2⟩ := call_2 lp_share_Envy rfl (T1.more hm4') (shows_gv T1.l) (by rw [hRLo]; exact envyP_c false true _ _ 1 _ (R'.map rowR) o (hG'.inn (by omega)) [])
  have T2 := T1.fl f2
  obtain ⟨M3,k3,f3⟩ := call_2 lp_share_Fair rfl T2.val (shows_gv T2.l) (by rw [hRLo]; exact fairP_c false false _ _ 1 _ (R.map rowR) o (hG.inn (by omega)) [])
  have T3 := T2.fl f3
  obtain ⟨M4,k4,f4⟩ := call_2 lp_share_Fair rfl (T3.more hm4') (shows_gv T3.l) (by rw [hRLo]; exact fairP_c false true _ _ 1 _ (R'.map rowR) o (hG'.inn (by omega)) [])
  have T4 := T3.fl f4
  obtain ⟨M5,k5,f5⟩ := call_2 lp_share_Turns rfl T4.val (shows_gv T4.ord) (by rw [hRLo]; exact turnsP_c false false _ _ 1 _ (R.map rowR) ord (hG.inn (by omega)) [])
  have T5 := T4.fl f5
  obtain ⟨M6,k6,f6⟩ := call_2 lp_share_Turns rfl (T5.more hm4') (shows_gv T5.ord) (by rw [hRLo]; exact turnsP_c false true _ _ 1 _ (R'.map rowR) ord (hG'.inn (by omega)) [])
  have T6 := T5.fl f6
  obtain ⟨M7,k7,f7⟩ := call_1 lp_share_Rings rfl T6.val (ringsP_c false false 1 (R.map rowR) sz.1 sz.2 [])
  have T7 := T6.fl f7
  obtain ⟨M8,k8,f8⟩ := call_1 lp_share_Rings rfl (T7.more hm4') (ringsP_c false true 1 (R'.map rowR) sz'.1 sz'.2 [])
  have T8 := T7.fl f8
  obtain ⟨fa,fb,fz,hfree⟩ := freeP_c false false 1 (R.map rowR) sz.1 sz.2
  obtain ⟨ga,gb,gz,hfree'⟩ := freeP_c false true 1 (R'.map rowR) sz'.1 sz'.2
  obtain ⟨M9,k9,f9⟩ := call_1 lp_share_Free rfl T8.val (hfree [])
  have T9 := T8.fl f9
  obtain ⟨M10,k10,f10⟩ := call_1 lp_share_Free rfl (T9.more hm4') (hfree' [])
  have T10 := T9.fl f10
  obtain ⟨ma,mb,mz,hmo⟩ := mostP_c false false 1 (R.map rowR) sz.1 sz.2
  obtain ⟨na,nb,nz,hmo'⟩ := mostP_c false true 1 (R'.map rowR) sz'.1 sz'.2
  obtain ⟨M11,k11,f11⟩ := call_1 lp_share_Most rfl T10.val (hmo [])
  have T11 := T10.fl f11
  obtain ⟨M12,k12,f12⟩ := call_1 lp_share_Most rfl (T11.more hm4') (hmo' [])
  have T12 := T11.fl f12
  have D := hG.lok hmost.1 (fun x hx => by have := hmost.2 x hx; omega)
  have hpure : ∀ l,LV.pure (IL ma mb mz l) = true := fun l => by simp only [LV.pure]
  obtain ⟨M13,k13,f13⟩ := call_2p lp_law07_proper rfl T12.val (hpure (mostV R)) (proper_c false false ma mb 1 mz D (fun x hx => by rw [List.length_map]; exact hmost.2 x hx) [])
  have T13 := T12.fl f13
  obtain ⟨M14,k14,f14⟩ := call_2p lp_law07_worths rfl T13.val (hpure (mostV R)) (worths_c false false ma mb 1 mz D [])
  have T14 := T13.fl f14
  have h4 := fun V29 V30 => times_L4 D V29 V30 M14 R.length 0 true (by simp)
  simp only [vR,vR',hdiv,hdiv',hte,hte',hchk,hchk',q1,q2,q3,q4,q6,q7] at k1 k2 k3 k4 k5 k6 k7 k8 k9 k10 k11 k12 k14 h4
  rw [hrl] at h4
  rw [List.length_map,hrl] at h4
  -- equal lists
  have hE1 : (envyV R o).length < 1000000 := by
    unfold envyV
    rw [hdiv,if_neg (by simp)]
    have D2 := (hG.lok hol' (fun x hx => by have := hown x hx; omega)).d
    have := P_len D2 (fun i j => decide (0 < eW R o i j))
    unfold PW
    rw [List.length_map] at this
    exact Nat.lt_of_le_of_lt this (by omega)
  have hnl : ∀ L,(nones L).length = L := fun L => by simp [nones]
  have hT1 : (turnV R ord).length < 1000000 := by
    unfold turnV
    rw [hte,if_pos rfl,trn_length,hnl,(hG.get hG.pos).1]
    omega
  have hR1 : (ringsV R).length < 1000000 := by
    unfold ringsV
    rw [hchk,if_pos rfl,ringsI_length,hnl,(hG.get hG.pos).1]
    omega
  have hF1 : (freeV R).length < 1000000 := by
    unfold freeV
    rw [hchk,if_pos rfl]
    cases hf : fairs R with
    | nil => simp
    | cons x l =>
      have hx : x ∈ fairs R := by rw [hf]; simp
      have := (allD_mem _ _ x (List.mem_filter.1 hx |>.1)).1
      have := (hG.get hG.pos).1
      show x.length < _
      omega
  have hM1 : (mostV R).length < 1000000 := by have := hmost.1; omega
  have p1 : ∀ m,clF LP n_law07_pairs [RP (envyV R o),RP (envyV R o)] m = some (.P,.bool true,m) := fun m => pairs_refl _ _ _ _ _ _ (envyV R o) hE1 m
  have s1' := fun m => same_refl false true false true 1 1 (turnV R ord) hT1 m
  have s2' := fun m => same_refl false true false true 1 1 (ringsV R) hR1 m
  have s3' := fun m => same_refl fa fb ga gb fz gz (freeV R) hF1 m
  have hRT : ∀ l,RT 0 l = .tup [IL false true 1 l,.int .i64 0] := fun _ => rfl
  rw [hRT] at k5 k6 k7 k8
  have hA : ((List.range' 0 r).all fun i => decide (0 < ws (i : Int) (R.getD i []) (mostV R) 0)) = true → mostV R' = mostV R := fun h => q8 (by rw [hrl]; exact h)
  have s4' : ((List.range' 0 r).all fun i => decide (0 < ws (i : Int) (R.getD i []) (mostV R) 0)) = true → ∀ m,clF LP n_law07_same [IL ma mb mz (mostV R),IL na nb nz (mostV R')] m = some (.P,.bool true,m) := fun h m => by
    rw [hA h]
    exact same_refl ma mb na nb mz nz (mostV R) hM1 m
  have hWl := WR_len R (mostV R)
  rw [hrl] at hWl
  rw [hml',hrl] at k2 k4 k6 k8 k10 k12
  rw [hrl] at k1 k3 k5 k7 k9 k11 k13 k14 hex0 hex1 hex2 hex3 hcell
  have h3c := hM3.cells
  rw [hrl] at h3c
  have hCl := celM_len R β r r
  have hrn := hrow.1
  have hlg : lenL (GV (β p) (R.getD p [])) = some (R.getD p []).length := by
    unfold GV
    by_cases c : R.getD p [] = []
    · rw [if_pos c,c]; rfl
    · rw [if_neg c]; rfl
  have hR0 : (R.map RL)[0]? = some (RL (R.getD 0 [])) := by
    rw [List.getElem?_map,List.getD_eq_getElem?_getD,List.getElem?_eq_getElem hG.pos]; rfl
  have hlR0 : lenL (RL (R.getD 0 [])) = some n := by
    rw [← (hG.get hG.pos).1]; rfl
  have hRRl : (R.map RL).length = r := by rw [List.length_map,hrl]
  have hws1 : IntKind.i64.wrap (s1 : Int) = (s1 : Int) := wrap_in (by omega)
  have hrem := rem_nat s1 r (by omega)
  rw [hp'] at hrem
  have hrm : r * 24 ≤ roomMost := by unfold roomMost; omega
  have hrm2 : r ≤ roomMost := by unfold roomMost; omega
  have hof : ofAVs [.nilslice] = [LV.lst true true 0 0 []] := rfl
  have hm2' : m1 ++ [(⟨celM R (fun _ => 0) r 0,true⟩ : LBlk)] = m2 := hm2.symm
  have e4 : ((4 : Nat) : Int) = 4 := rfl
  have e5 : ((5 : Nat) : Int) = 5 := rfl
  have e6 : ((6 : Nat) : Int) = 6 := rfl
  rw [e4,e5,e6] at hmade
  have hpr : p < r := by omega
  have hr0 : 0 < r := by omega
  have hlV : lenL (SLv b r) = some r := rfl
  have hlW : lenL (VL false true 1 (WR R (mostV R))) = some r := by show some (WR R (mostV R)).length = _; rw [hWl]
  simp only [Int.natCast_zero] at hex0 hex1 hex2 hex3 h4
  refine call_P lp_law07_ShareTimes rfl (by simp only [LV.pures,LV.pure,hps,hps2,Bool.and_self]) (m1 := M14) ?_ rfl []
  clear T0 T1 T2 T3 T4 T5 T6 T7 T8 T9 T10 T11 T12 T13 T14 f1 f2 f3 f4 f5 f6 f7 f8 f9 f10 f11 f12 f13 f14
  generalize ((List.range' 0 r).all fun i => decide (0 < ws (i : Int) (R.getD i []) (mostV R) 0)) = A at *
  generalize VL false true 1 (WR R (mostV R)) = VW at *
  generalize RP (envyV R o) = rp at *
  generalize GV m4.length o = gl at *
  generalize GV (m4 ++ GM o).length ord = go at *
  generalize m4 ++ GM o = m5 at *
  generalize R.map RL = RR at *
  generalize RL (R.getD 0 []) = rl0 at *
  generalize GV (β p) (R.getD p []) = gp at *
  generalize celM R β r r = CC at *
  generalize (R.getD p []).length = n' at *
  generalize IL ma mb mz (mostV R) = VO at *
  generalize IL na nb nz (mostV R') = VO' at *
  generalize IL false true 1 (turnV R ord) = VT at *
  generalize IL false true 1 (ringsV R) = VR at *
  generalize IL fa fb fz (freeV R) = VF at *
  generalize IL ga gb gz (freeV R) = VF' at *
  generalize freeE R = fe at *
  generalize fairV R o = fv at *
  generalize bys w = WB at *
  generalize bys cs = CB at *
  cases A
  · simp only [law07_ShareTimes,law07_ShareTimes.B,law07_ShareTimes.B.R0,law07_ShareTimes.B.R1,law07_ShareTimes.B.R2,law07_ShareTimes.B.R3,law07_ShareTimes.B.R4,law07_ShareTimes.B.R5,law07_ShareTimes.B.R6,law07_ShareTimes.B.R7,law07_ShareTimes.B.R8,law07_ShareTimes.B.R9]
    repeat (rw [exF_seq]; try simp (maxSteps := 1000000) only [beqT,beqF,exF_seq,exF_region,exF_block,exF_cond,exF_ret,exF_skip,runL,wantL,stepL,evL,evC,LEnv.at,putL,loadFine,loadL,cellsAt,Trk.putNew,Trk.up,Trk.touch,Trk.gives,Trk.calm,Trk.hit,opdsOf,Trk.fresh,LEnv.keep,LEnv.ofFrom,List.map_cons,List.map_nil,nbeq,nble,nblt,ofAV,ofAVs,bin_neq,natL_nat,natL_zero,List.any_cons,List.any_nil,Bool.or_false,Bool.false_or,Bool.true_or,Bool.or_true,Bool.and_true,Bool.and_false,Bool.false_and,Bool.not_true,Bool.not_false,Nat.reduceEqDiff,decide_true,decide_false,cond_true,cond_false,List.filter_nil,Nat.reduceAdd,Nat.reduceLeDiff,reduceCtorEq,List.length_nil,List.length_cons,Nat.mul_one,eq_self,retL,resultsL,resAllL,resOfL,List.append_nil,List.nil_append,List.cons_append,not_true_eq_false,ne_eq,unL,LV.cells,allocL,List.getElem?_cons_zero,List.getElem?_cons_succ,List.drop_zero,Nat.le_refl,hbl,hbl2,htk,hmade,hlV,hrm,hrm2,hz,hm2',hex0,hws1,hrem,h3c,hCl,hcell,hpr,Nat.zero_add,hlg,hex1,h4b,hRRl,hR0,hr0,hlR0,hex2,hex3,k1,k2,k3,k4,k5,k6,k7,k8,k9,k10,k11,k12,k13,k14,p1,s1',s2',s3',hlW,h4,works_c])
  · have s4' := s4' rfl
    simp only [law07_ShareTimes,law07_ShareTimes.B,law07_ShareTimes.B.R0,law07_ShareTimes.B.R1,law07_ShareTimes.B.R2,law07_ShareTimes.B.R3,law07_ShareTimes.B.R4,law07_ShareTimes.B.R5,law07_ShareTimes.B.R6,law07_ShareTimes.B.R7,law07_ShareTimes.B.R8,law07_ShareTimes.B.R9]
    repeat (rw [exF_seq]; try simp (maxSteps := 1000000) only [beqT,beqF,exF_seq,exF_region,exF_block,exF_cond,exF_ret,exF_skip,runL,wantL,stepL,evL,evC,LEnv.at,putL,loadFine,loadL,cellsAt,Trk.putNew,Trk.up,Trk.touch,Trk.gives,Trk.calm,Trk.hit,opdsOf,Trk.fresh,LEnv.keep,LEnv.ofFrom,List.map_cons,List.map_nil,nbeq,nble,nblt,ofAV,ofAVs,bin_neq,natL_nat,natL_zero,List.any_cons,List.any_nil,Bool.or_false,Bool.false_or,Bool.true_or,Bool.or_true,Bool.and_true,Bool.false_and,Bool.not_true,Bool.not_false,Nat.reduceEqDiff,decide_true,decide_false,cond_true,cond_false,List.filter_nil,Nat.reduceAdd,Nat.reduceLeDiff,reduceCtorEq,List.length_nil,List.length_cons,Nat.mul_one,eq_self,retL,resultsL,resAllL,resOfL,List.append_nil,List.nil_append,List.cons_append,not_true_eq_false,ne_eq,unL,LV.cells,allocL,List.getElem?_cons_zero,List.getElem?_cons_succ,List.drop_zero,Nat.le_refl,hbl,hbl2,htk,hmade,hlV,hrm,hrm2,hz,hm2',hex0,hws1,hrem,h3c,hCl,hcell,hpr,Nat.zero_add,hlg,hex1,h4b,hRRl,hR0,hr0,hlR0,hex2,hex3,k1,k2,k3,k4,k5,k6,k7,k8,k9,k10,k11,k12,k13,k14,p1,s1',s2',s3',s4',hlW,h4,works_c])
end Go.Am.Share
set_option linter.unusedVariables false
namespace Go.Am
variable [Glo]
open Go.RowKit
def Placed (ρ : PM) (b : Nat) (ps : List Place) : Prop := ∀ (i : Nat) (p : Place),ps[i]? = some p → ρ (b + i) = some p
def Shows (s : Sit) (b : Nat) (bl : List (List AV)) : Prop := ∀ (i : Nat) (cs : List AV),bl[i]? = some cs → s.A (b + i) ∧ s.am.look (b + i) = some ⟨cs,false⟩
def ArgOk (w : World) (v : Value) (lv : LV) : Prop :=
  ∃ (bl : Nat → List (List AV)) (ps : List Place) (av : Nat → AV),(∀ b,(bl b).length = ps.length) ∧
    (∀ (ρ : PM) (b : Nat),Placed ρ b ps → VR ρ (av b) v ∧ ∀ (i : Nat) (cs : List AV) (p : Place),(bl b)[i]? = some cs → ps[i]? = some p → p.map = false ∧ CellsAt ρ w cs p) ∧
    (∀ (s : Sit) (b : Nat),Shows s b (bl b) → LR s lv (av b))
inductive ArgsOk (w : World) : List Value → List LV → Prop
  | nil : ArgsOk w [] []
  | cons {v : Value} {lv : LV} {vs : List Value} {lvs : List LV} (h : ArgOk w v lv) (hr : ArgsOk w vs lvs) : ArgsOk w (v :: vs) (lv :: lvs)
omit [Glo] in
theorem argOk_int (w : World) (k : IntKind) (n : Int) : ArgOk w (.int k n) (.int k n) := ⟨fun _ => [],[],fun _ => .int k n,fun _ => rfl,fun ρ b _ => ⟨.int k n,fun i cs p h => by simp at h⟩,fun s b _ => .int k n⟩
omit [Glo] in
theorem append_get {α : Type} (a b : List α) (i : Nat) (x : α) (h : (a ++ b)[i]? = some x) : (i < a.length ∧ a[i]? = some x) ∨ (a.length ≤ i ∧ b[i - a.length]? = some x) := by
  by_cases hi : i < a.length
  · rw [List.getElem?_append_left hi] at h; exact .inl ⟨hi,h⟩
  · rw [List.getElem?_append_right (by omega)] at h; exact .inr ⟨by omega,h⟩
omit [Glo] in
theorem args_all {w : World} : ∀ {vs : List Value} {lvs : List LV},ArgsOk w vs lvs → ∃ (bl : Nat → List (List AV)) (ps : List Place) (avs : Nat → List AV),(∀ b,(bl b).length = ps.length) ∧
    (∀ (ρ : PM) (b : Nat),Placed ρ b ps → VRs ρ (avs b) vs ∧ ∀ (i : Nat) (cs : List AV) (p : Place),(bl b)[i]? = some cs → ps[i]? = some p → p.map = false ∧ CellsAt ρ w cs p) ∧
    (∀ (s : Sit) (b : Nat),Shows s b (bl b) → LRs s lvs (avs b))
  | _,_,.nil => ⟨fun _ => [],[],fun _ => [],fun _ => rfl,fun ρ b _ => ⟨.nil,fun i cs p h => by simp at h⟩,fun s b _ => .nil⟩
  | _,_,.cons h hr => by
    obtain ⟨bl1,ps1,av1,a1,a2,a3⟩ := h
    obtain ⟨bl2,ps2,av2,b1,b2,b3⟩ := args_all hr
    refine ⟨fun b => bl1 b ++ bl2 (b + ps1.length),ps1 ++ ps2,fun b => av1 b :: av2 (b + ps1.length),fun b => by simp [a1,b1],fun ρ b hp => ?_,fun s b hs => ?_⟩
    · have hp1 : Placed ρ b ps1 := fun i p h => hp i p (by rw [List.getElem?_append_left (List.getElem?_eq_some_iff.1 h).1]; exact h)
      have hp2 : Placed ρ (b + ps1.length) ps2 := fun i p h => by
        have := hp (ps1.length + i) p (by rw [List.getElem?_append_right (by omega)]; simpa using h)
        rw [Nat.add_assoc]; exact this
      obtain ⟨c1,c2⟩ := a2 ρ b hp1
      obtain ⟨d1,d2⟩ := b2 ρ _ hp2
      refine ⟨.cons c1 d1,fun i cs p hcs hpp => ?_⟩
      rcases append_get _ _ _ _ hcs with ⟨e1,e2⟩ | ⟨e1,e2⟩
      · rw [a1] at e1
        rw [List.getElem?_append_left e1] at hpp
        exact c2 i cs p e2 hpp
      · rw [a1] at e1 e2
        rw [List.getElem?_append_right e1] at hpp
        exact d2 _ cs p e2 hpp
    · refine .cons (a3 s b fun i cs h => hs i cs (by rw [List.getElem?_append_left (List.getElem?_eq_some_iff.1 h).1]; exact h)) (b3 s _ fun i cs h => ?_)
      have := hs (ps1.length + i) cs (by rw [List.getElem?_append_right (by rw [a1]; omega)]; rw [a1]; simpa using h)
      rw [Nat.add_assoc]; exact this
def gPlaces (n : Nat) : List Place := (List.range n).map fun g => ⟨g,0,0,false⟩
omit [Glo] in
theorem gPlaces_get {n g : Nat} {p : Place} (h : (gPlaces n)[g]? = some p) : p = ⟨g,0,0,false⟩ := by
  unfold gPlaces at h
  rw [List.getElem?_map] at h
  obtain ⟨x,hx,rfl⟩ := Option.map_eq_some_iff.1 h
  have hg := (List.getElem?_eq_some_iff.1 hx).1
  simp at hg
  rw [List.getElem?_range hg] at hx
  cases hx; rfl
theorem law_glob {P : Program} {C : Prog} {LP : LProg} (hC : ProgOk C P) (hmix : P.follows .mixedOrders = true) (hL : ProgL LP C) {f : Nat} {lvs : List LV} {md : Mode} {m' : LMem} (h : clF LP f lvs [] = some (md,.bool true,m'))
    {w : World} {cargs : Array Value} (ha : ArgsOk w cargs.toList lvs) (gb : List (List AV)) (hgb : gb.length = P.globals.size) (hT : ∀ g l,Glo.tab g = some l → gb[g]? = some l) (hcell : ∀ (ρ : PM) (g : Nat) (cs : List AV),gb[g]? = some cs → CellsAt ρ w cs ⟨g,0,0,false⟩) :
    Calls P f cargs w fun e w' => e = .returned (.bool true) ∧ Below w.heap.size w w' := by
  obtain ⟨bl,ps,avs,h1,h2,h3⟩ := args_all ha
  obtain ⟨n,hn⟩ := clF_some.1 h
  generalize hN : gb.length = N at hgb
  generalize hall : gb ++ bl N = all
  have hget : ∀ (i : Nat) (cs : List AV),(bl N)[i]? = some cs → all[N + i]? = some cs := fun i cs hi => by
    rw [← hall,List.getElem?_append_right (by omega),hN,Nat.add_sub_cancel_left]; exact hi
  have hs : Shows ⟨[],memOf all,fun _ => 0,fun b => b < all.length⟩ N (bl N) := fun i cs hi =>
    ⟨(List.getElem?_eq_some_iff.1 (hget i cs hi)).1,by show (memOf all).look (N + i) = _; rw [memOf_look,hget i cs hi]; rfl⟩
  have hrel : Rel2 ⟨[],memOf all,fun _ => 0,fun b => b < all.length⟩ := by
    refine ⟨fun i b hb => by simp at hb,fun i j b b' hb => by simp at hb,fun b hb => ?_,fun b ab hb => ?_,fun g l hg => ?_⟩
    · have hb : b < all.length := hb
      exact ⟨⟨all[b],false⟩,by show (memOf all).look b = _; rw [memOf_look,List.getElem?_eq_getElem hb]; rfl⟩
    · have hb : (memOf all).look b = some ab := hb
      show b < (memOf all).next
      rw [memOf_next]
      rw [memOf_look] at hb
      obtain ⟨x,hx,_⟩ := Option.map_eq_some_iff.1 hb
      exact (List.getElem?_eq_some_iff.1 hx).1
    · have e : all[g]? = some l := by
        have := hT g l hg
        rw [← hall,List.getElem?_append_left (List.getElem?_eq_some_iff.1 this).1]; exact this
      exact ⟨(List.getElem?_eq_some_iff.1 e).1,by show (memOf all).look g = _; rw [memOf_look,e]; rfl⟩
  obtain ⟨av,am',h4,t,_,_,_,_,h5,_⟩ := callL_sound hL n f lvs [] md (.bool true) m' hn _ (avs N) rfl hrel (h3 _ N hs)
  cases h5
  generalize hpl : gPlaces N ++ ps = pl
  have hgl : (gPlaces N).length = N := by simp [gPlaces]
  have hplaced : Placed (placesOf pl) N ps := fun i p hp => by
    show pl[N + i]? = some p
    rw [← hpl,List.getElem?_append_right (by omega),hgl,Nat.add_sub_cancel_left]; exact hp
  obtain ⟨h6,h7⟩ := h2 (placesOf pl) N hplaced
  refine law_calls hC hmix (l := all) (ps := pl) h4 (by rw [← hall,← hpl,List.length_append,List.length_append,h1,hgl,hN]) (fun i cs p hcs hp => ?_) h6 fun g hg => ?_
  · rw [← hall] at hcs
    rw [← hpl] at hp
    rcases append_get _ _ _ _ hcs with ⟨e1,e2⟩ | ⟨e1,e2⟩
    · rw [List.getElem?_append_left (by omega)] at hp
      rw [gPlaces_get hp]
      exact ⟨rfl,hcell _ i cs e2⟩
    · rw [List.getElem?_append_right (by omega),hgl] at hp
      rw [hN] at e2
      exact h7 _ cs p e2 hp
  · have hg : g < N := by omega
    refine ⟨⟨g,0,0,false⟩,?_,rfl,rfl,rfl⟩
    show pl[g]? = _
    rw [← hpl,List.getElem?_append_left (by omega)]
    simp [gPlaces,hg]
theorem law_list {P : Program} {C : Prog} {LP : LProg} (hC : ProgOk C P) (hmix : P.follows .mixedOrders = true) (hL : ProgL LP C) {f : Nat} {lvs : List LV} {md : Mode} {m' : LMem} (h : clF LP f lvs [] = some (md,.bool true,m')) (hG : P.globals.size = 0) (hT : ∀ g,Glo.tab g = none)
    {w : World} {cargs : Array Value} (ha : ArgsOk w cargs.toList lvs) : Calls P f cargs w fun e w' => e = .returned (.bool true) ∧ Below w.heap.size w w' :=
  law_glob hC hmix hL h ha [] (by simp [hG]) (fun g l hg => by rw [hT g] at hg; cases hg) (fun ρ g cs hg => by simp at hg)
end Go.Am
set_option linter.unusedVariables false
namespace Go.Am
variable [Glo]
open Go.ChangeShapes Go.RowKit Go.Deep
end Go.Am
set_option linter.unusedVariables false
namespace Go.Am
variable [Glo]
open Go.RowKit
omit [Glo] in
theorem trodAll_below {H : Type} {enc : TypeId × Value → H} {P : Program} {W W' : World} (hl : laidOutB P = true) (hb : Below W.heap.size W W') : ∀ {ts : List TypeId} {vs : List Value} {ds : List (DataW H)} {ps : List MemPlace},(ts.all fun t => P.readableRec t && decide (t < P.types.size)) = true →
    DataW.TrodAll enc P W 0 (fun _ => true) true ts vs ds ps → (∀ x ∈ ps,x.block < W.heap.size) → DataW.TrodAll enc P W' 0 (fun b => decide (b < W.heap.size)) true ts vs ds ps
  | [],[],[],_,_,h,_ => h
  | t :: ts,v :: vs,d :: ds,ps,hr,⟨p,q,h1,h2,e⟩,hlt => by
    simp only [List.all_cons,Bool.and_eq_true,decide_eq_true_eq] at hr
    subst e
    exact ⟨p,q,Below.trod hl hr.1.1 hr.1.2 h1 hb (fun x hx => hlt x (List.mem_append_left _ hx)),trodAll_below hl hb hr.2 h2 (fun x hx => hlt x (List.mem_append_right _ hx)),rfl⟩
end Go.Am
set_option linter.unusedVariables false
namespace Go.Am
variable [Glo]
open Go.RowKit
def sumPc : Nat → List (Nat × Nat) → Option Nat
  | off,[] => some off
  | off,(o,k) :: r => cond (Nat.beq o off) (sumPc (off + k) r) none
def pcsF (P : Program) (g : TypeId → Option Nat) : List Field → Option (List (Nat × Nat))
  | [] => some []
  | f :: r => match g f.type with
    | some k => match pcsF P g r with
      | some l => cond (Nat.beq (P.cellsOf f.type) k) (some ((f.offset,k) :: l)) none
      | none => none
    | none => none
def u8T (P : Program) : Nat → TypeId → Option Nat
  | 0,_ => none
  | n + 1,t => match P.underlying t with
    | some (.int .u8) => some 1
    | some (.array m e) => match u8T P n e with
      | some k => cond (Nat.beq (P.cellsOf e) k && Nat.beq (P.cellsOf t) (m * k)) (some (m * k)) none
      | none => none
    | some (.struct fs) => match pcsF P (u8T P n) fs.toList with
      | some l => match sumPc 0 l with
        | some k => cond (Nat.beq (P.cellsOf t) k) (some k) none
        | none => none
      | none => none
    | _ => none
def U8s (cs : List Value) : Prop := ∀ (i : Nat) (v : Value),cs[i]? = some v → ∃ n : Int,v = .int .u8 n ∧ (Lit.int .u8 n).wf = true
omit [Glo] in
theorem sumPc_in : ∀ (l : List (Nat × Nat)) (off tot : Nat),sumPc off l = some tot → ∀ i,off ≤ i → i < tot → ∃ p ∈ l,p.1 ≤ i ∧ i < p.1 + p.2
  | [],off,tot,h,i,h1,h2 => by simp only [sumPc,Option.some.injEq] at h; omega
  | (o, k) :: r,off,tot,h,i,h1,h2 => by
    simp only [sumPc] at h
    cases c : Nat.beq o off <;> rw [c] at h
    · cases h
    · have e : o = off := by simpa using c
      subst e
      by_cases hi : i < o + k
      · exact ⟨(o,k),by simp,h1,hi⟩
      · obtain ⟨p,hp,h3⟩ := sumPc_in r _ _ h i (by omega) h2
        exact ⟨p,by simp [hp],h3⟩
omit [Glo] in
theorem pcsF_in {P : Program} {g : TypeId → Option Nat} : ∀ (fs : List Field) (l : List (Nat × Nat)),pcsF P g fs = some l → ∀ p ∈ l,∃ (i : Nat) (f : Field),fs[i]? = some f ∧ f.offset = p.1 ∧ g f.type = some p.2 ∧ P.cellsOf f.type = p.2
  | [],l,h,p,hp => by simp only [pcsF,Option.some.injEq] at h; subst h; cases hp
  | f :: r, l,h,p,hp => by
    simp only [pcsF] at h
    split at h
    · rename_i k hk
      split at h
      · rename_i l' hl'
        cases c : Nat.beq (P.cellsOf f.type) k <;> rw [c] at h
        · cases h
        · simp only [cond_true,Option.some.injEq] at h
          subst h
          rcases List.mem_cons.1 hp with rfl | hp
          · exact ⟨0,f,rfl,rfl,hk,by simpa using c⟩
          · obtain ⟨i,f',h1,h2⟩ := pcsF_in r l' hl' p hp
            exact ⟨i + 1,f',by simpa using h1,h2⟩
      · cases h
    · cases h
section
variable {H : Type} {enc : TypeId × Value → H} {P : Program} {w : World} {base : Nat} {sp : Nat → Bool} {held : Bool}
omit [Glo] in
theorem u8T_ok : ∀ (n : Nat) (t : TypeId) (fuel : Nat) (cs : List Value) (x : DataW H × List MemPlace) (k : Nat),u8T P n t = some k → DataW.trod enc P w base sp held fuel t cs = some x → U8s cs ∧ cs.length = k
  | 0,_,_,_,_,_,h,_ => by cases h
  | n + 1,t,fuel,cs,x,k,h,hx => by
    simp only [u8T] at h
    split at h
    · rename_i ht
      cases h
      obtain ⟨a,rfl,_,hw⟩ := DataW.trod_int ht hx
      refine ⟨fun i v hv => ?_,rfl⟩
      match i with
      | 0 => simp at hv; subst hv; exact ⟨a,rfl,hw⟩
      | i + 1 => simp at hv
    · rename_i m e ht
      split at h
      · rename_i k' hk'
        cases c : (Nat.beq (P.cellsOf e) k' && Nat.beq (P.cellsOf t) (m * k')) <;> rw [c] at h
        · cases h
        · simp only [cond_true,Option.some.injEq] at h
          subst h
          simp only [Bool.and_eq_true] at c
          have c1 : P.cellsOf e = k' := by simpa using c.1
          have c2 : P.cellsOf t = m * k' := by simpa using c.2
          obtain ⟨xs,m',_,_,hl,hxl,hf⟩ := DataW.trod_array ht hx
          rw [c2] at hl
          refine ⟨fun i v hv => ?_,hl⟩
          have hi : i < m * k' := by rw [← hl]; exact (List.getElem?_eq_some_iff.1 hv).1
          have hk0 : 0 < k' := by
            rcases Nat.eq_zero_or_pos k' with e0 | e0
            · rw [e0] at hi; simp at hi
            · exact e0
          have h1 : i / k' < m := (Nat.div_lt_iff_lt_mul hk0).2 hi
          have h2 : i % k' < k' := Nat.mod_lt _ hk0
          have h3 : (i / k') * k' + i % k' = i := by rw [Nat.mul_comm]; exact Nat.div_add_mod i k'
          have h4 := hf (i / k') h1
          rw [c1] at h4
          obtain ⟨y,hy⟩ : ∃ y,xs[i / k']? = some y := ⟨xs[i / k']'(by omega),List.getElem?_eq_getElem (by omega)⟩
          rw [hy] at h4
          obtain ⟨h5,_⟩ := u8T_ok n e m' _ y k' hk' h4
          refine h5 (i % k') v ?_
          rw [List.getElem?_take,if_pos h2,List.getElem?_drop,h3]
          exact hv
      · cases h
    · rename_i fs ht
      split at h
      · rename_i l hl'
        split at h
        · rename_i k' hk'
          cases c : Nat.beq (P.cellsOf t) k' <;> rw [c] at h
          · cases h
          · simp only [cond_true,Option.some.injEq] at h
            subst h
            have c2 : P.cellsOf t = k' := by simpa using c
            obtain ⟨xs,m',_,_,hl,hxl,hf⟩ := DataW.trod_struct ht hx
            rw [c2] at hl
            refine ⟨fun i v hv => ?_,hl⟩
            have hi : i < k' := by rw [← hl]; exact (List.getElem?_eq_some_iff.1 hv).1
            obtain ⟨p,hp,p1,p2⟩ := sumPc_in l 0 k' hk' i (Nat.zero_le _) hi
            obtain ⟨j,f,f1,f2,f3,f4⟩ := pcsF_in _ _ hl' p hp
            have f1' : fs[j]? = some f := by simpa using f1
            have hj : j < fs.size := (Array.getElem?_eq_some_iff.1 f1').1
            have h4 := hf j f f1'
            rw [f4,f2] at h4
            obtain ⟨y,hy⟩ : ∃ y,xs[j]? = some y := ⟨xs[j]'(by omega),List.getElem?_eq_getElem (by omega)⟩
            rw [hy] at h4
            obtain ⟨h5,_⟩ := u8T_ok n f.type m' _ y p.2 f3 h4
            refine h5 (i - p.1) v ?_
            rw [List.getElem?_take,if_pos (by omega),List.getElem?_drop,show p.1 + (i - p.1) = i by omega]
            exact hv
        · cases h
      · cases h
    · cases h
omit [Glo] in
theorem u8s_list : ∀ {cs : List Value},U8s cs → ∃ ns : List Int,cs = ns.map (Value.int .u8) ∧ ∀ n ∈ ns,0 ≤ n ∧ n < 256
  | [],_ => ⟨[],rfl,by simp⟩
  | v :: r,h => by
    obtain ⟨n,rfl,hw⟩ := h 0 v rfl
    obtain ⟨ns,e,hb⟩ := u8s_list (cs := r) fun i v hv => h (i + 1) v (by simpa using hv)
    refine ⟨n :: ns,by rw [e]; rfl,?_⟩
    intro x hx
    rcases List.mem_cons.1 hx with rfl | hx
    · have := bounds_u8 hw; omega
    · exact hb x hx
omit [Glo] in
theorem argOk_bytes (w : World) (ns : List Int) : ArgOk w (.agg (ns.map (Value.int .u8)).toArray) (.agg (ns.map (LV.int .u8))) := by
  refine ⟨fun _ => [],[],fun _ => .agg (ns.map (AV.int .u8)),fun _ => rfl,fun ρ b _ => ⟨.agg ?_,fun i cs p h => by simp at h⟩,fun s b _ => .agg ?_⟩
  · show VRs ρ _ (ns.map (Value.int .u8)).toArray.toList
    simp only []
    induction ns with
    | nil => exact .nil
    | cons n r ih => exact .cons (.int _ _) ih
  · exact LRs.map _ fun x _ => .int _ _
omit [Glo] in
theorem argOk_struct {r : Reach} {b0 n k : Nat} {t : TypeId} {fs : Array Field} {v : Value} {d : DataW H} {ps : List MemPlace} (ht : P.underlying t = some (.struct fs)) (hk : u8T P n t = some k)
    (hval : Value.okWide P w r b0 t v) (hd : DataW.Trod enc P w base sp held t v d ps) :
    ∃ ns : List Int,ns.length = k ∧ (∀ n ∈ ns,0 ≤ n ∧ n < 256) ∧ ArgOk w v (.agg (ns.map (LV.int .u8))) := by
  obtain ⟨cs,rfl,_⟩ := Go.WideShapes.okWide_struct ht hval
  obtain ⟨fuel,hf⟩ := hd
  obtain ⟨h1,h2⟩ := u8T_ok n t fuel _ _ k hk hf
  obtain ⟨ns,e,hb⟩ := u8s_list h1
  have e' : cs = (ns.map (Value.int .u8)).toArray := by
    apply Array.ext'
    simpa [Value.cells] using e
  subst e'
  refine ⟨ns,?_,hb,argOk_bytes w ns⟩
  simpa [Value.cells] using h2
omit [Glo] in
theorem argOk_array {r : Reach} {b0 n k m : Nat} {t e : TypeId} {v : Value} {d : DataW H} {ps : List MemPlace} (ht : P.underlying t = some (.array m e)) (hk : u8T P n t = some k)
    (hval : Value.okWide P w r b0 t v) (hd : DataW.Trod enc P w base sp held t v d ps) :
    ∃ ns : List Int,ns.length = k ∧ (∀ n ∈ ns,0 ≤ n ∧ n < 256) ∧ ArgOk w v (.agg (ns.map (LV.int .u8))) := by
  obtain ⟨cs,rfl,_⟩ : ∃ cs,v = .agg cs ∧ cs.size = P.cellsOf t := by
    simp only [Value.okWide,ht] at hval
    obtain ⟨cs,h1,h2,_⟩ := hval
    exact ⟨cs,h1,h2⟩
  obtain ⟨fuel,hf⟩ := hd
  obtain ⟨h1,h2⟩ := u8T_ok n t fuel _ _ k hk hf
  obtain ⟨ns,e,hb⟩ := u8s_list h1
  have e' : cs = (ns.map (Value.int .u8)).toArray := by
    apply Array.ext'
    simpa [Value.cells] using e
  subst e'
  refine ⟨ns,?_,hb,argOk_bytes w ns⟩
  simpa [Value.cells] using h2
end
end Go.Am
