/- Several texts in one: Bsf, Ows, Sr1. -/
import Derived.Test.YtbfbkpoakmnlpaaGreatG3
import Derived.Test.YtbfbkpoakmnlpaaGreatInsi
import Derived.Test.YtbfbkpoakmnlpaaGreatCpt
import Derived.Shelf.Spec.SlicesInsertGrow
import Derived.Test.YtbfbkpoakmnlpaaGreatGY
/- Contract: slices.BinarySearchFunc over ints. -/
namespace Go.Proofs.YtbfbkpoakmnlpaaGreat
open Go.RowKit
set_option maxRecDepth 100000 in
set_option maxHeartbeats 2000000 in
theorem bsearch_any (lA : Option Addr) (ll lc : Nat) (xs : List Int) (tg : Int) (gf : FuncId) (cap : Array Value) (cf : Int → Int) (w : World) (h : SlIs intR w lA ll lc xs) (hs : ll ≤ 1000000) (hg : ∀ args W,(callFunc gf args).run Tryz.prog W = .ok (.enter gf args) W)
  (hf : ∀ (W : World) (x : Int),Below w.heap.size w W → x ∈ xs → I64 x → Calls Tryz.prog gf (#[.int .i64 x,.int .i64 tg] ++ cap) W fun e W' => e = .returned (.int .i64 (cf x)) ∧ Below W.heap.size W W')
  (hm : ∀ (i j : Nat) x y,i ≤ j → xs[i]? = some x → xs[j]? = some y → cf y < 0 → cf x < 0) :
  Calls Tryz.prog 59 #[.slice lA ll lc,.int .i64 tg,.func (.func gf) #[] cap] w fun e w' => ∃ (k : Nat) (b : Bool),e = .returned (.tuple #[.int .i64 (k : Int),.bool b]) ∧ k ≤ xs.length ∧ (∀ (i : Nat) x,xs[i]? = some x → (i < k ↔ cf x < 0)) ∧ Below w.heap.size w w' := by
 have hlc := h.cap
 have hlm := h.max
 have hlen := h.len
 have H := Lib.hid h; clear h
 have HF := Lib.hid hf; clear hf
 have HM := Lib.hid hm; clear hm
 have HLEN := Lib.hid hlen; clear hlen
 go_enter Tryz.func59,Tryz.ntmps59
 go_wp2_with fail
 go_loopw [9,10] (fun t u wr => ∃ i j : Nat,t = .int .i64 (i : Int) ∧ u = .int .i64 (j : Int) ∧ i ≤ j ∧ j ≤ ll ∧ Below w.heap.size w wr ∧ (∀ (a : Nat) x,a < i → xs[a]? = some x → cf x < 0) ∧ (∀ (a : Nat) x,j ≤ a → xs[a]? = some x → 0 ≤ cf x)) (fun t u _ => (intOf u - intOf t).toNat)
 case atStart => exact ⟨0,ll,rfl,rfl,Nat.zero_le _,Nat.le_refl _,Below.refl _ _,fun a x h => (by omega),fun a x h hx => by
  have := (List.getElem?_eq_some_iff.1 hx).1
  have := HLEN.out; omega⟩
 case round =>
  obtain ⟨i,j,rfl,rfl,hij,hjl,hbw,h1,h2⟩ := hrel
  obtain ⟨wo,rfl⟩ : ∃ wo : World,wo = wr := ⟨_,rfl⟩
  by_cases hlt : i < j
  ·obtain ⟨m,hm_⟩ : ∃ m,m = (i + j) / 2 := ⟨_,rfl⟩
   have hmi : i ≤ m := by omega
   have hmj : m < j := by omega
   have t0 : (i : Int) < (j : Int) := by omega
   have em : ((i : Int) + (j : Int)) / 2 = (m : Int) := by omega
   have t1 : (0 : Int) ≤ (m : Int) := by omega
   have t2 : (m : Int) < (ll : Int) := by omega
   obtain ⟨x,hx,-⟩ := H.out.drop (k := m) (by omega)
   obtain ⟨xb,xo,rfl,lx,cx,x64⟩ := (H.out.ext hbw).int hx
   have hct := HF.out wo x hbw (List.mem_of_getElem? hx) x64
   by_cases hc : cf x < 0
   ·have t3 : decide (cf x < 0) = true := decide_eq_true hc
    have h1' : ∀ (a : Nat) y,a < m + 1 → xs[a]? = some y → cf y < 0 := fun a y ha hy => HM.out a m y x (by omega) hy hx hc
    obtain ⟨z,hz⟩ : ∃ z,z = cf x := ⟨_,rfl⟩
    rw [← hz] at hct t3 hc
    have HBW := Lib.hid hbw; clear hbw
    have H1 := Lib.hid h1; clear h1
    have H2 := Lib.hid h2; clear h2
    have HM_ := Lib.hid hm_; clear hm_
    have HX := Lib.hid hx; clear hx
    have X64 := Lib.hid x64; clear x64
    have HCT := Lib.hid hct; clear hct
    have H1' := Lib.hid h1'; clear h1'
    have HZ := Lib.hid hz; clear hz
    go_wp2_with fail
    go_fit HCT.out; rintro e w1 ⟨rfl,hb1⟩
    have hb2 := bel_trans HBW.out hb1
    have HB1 := Lib.hid hb1; clear hb1
    have HB2 := Lib.hid hb2; clear hb2
    go_wp2_with fail
    go_roundw
    case rel => exact ⟨m + 1,j,by go_num,rfl,by omega,hjl,HB2.out,H1'.out,H2.out⟩
    case measure => simp [intOf]; omega
   ·have t3 : decide (cf x < 0) = false := decide_eq_false hc
    have h2' : ∀ (a : Nat) y,m ≤ a → xs[a]? = some y → 0 ≤ cf y := fun a y ha hy => Int.not_lt.1 fun q => hc (HM.out m a x y ha hx hy q)
    obtain ⟨z,hz⟩ : ∃ z,z = cf x := ⟨_,rfl⟩
    rw [← hz] at hct t3 hc
    have HBW := Lib.hid hbw; clear hbw
    have H1 := Lib.hid h1; clear h1
    have H2 := Lib.hid h2; clear h2
    have HM_ := Lib.hid hm_; clear hm_
    have HX := Lib.hid hx; clear hx
    have X64 := Lib.hid x64; clear x64
    have HCT := Lib.hid hct; clear hct
    have H2' := Lib.hid h2'; clear h2'
    have HZ := Lib.hid hz; clear hz
    go_wp2_with fail
    go_fit HCT.out; rintro e w1 ⟨rfl,hb1⟩
    have hb2 := bel_trans HBW.out hb1
    have HB1 := Lib.hid hb1; clear hb1
    have HB2 := Lib.hid hb2; clear hb2
    go_wp2_with fail
    go_roundw
    case rel => exact ⟨i,m,rfl,rfl,hmi,by omega,HB2.out,H1.out,H2'.out⟩
    case measure => simp [intOf]; omega
  ·obtain rfl : i = j := by omega
   have hfin : ∀ (a : Nat) y,xs[a]? = some y → (a < i ↔ cf y < 0) := fun a y hy => ⟨fun ha => h1 a y ha hy,fun hc => Classical.byContradiction fun q => by have := h2 a y (by omega) hy; omega⟩
   by_cases hil : i < ll
   ·obtain ⟨x,hx,-⟩ := H.out.drop hil
    obtain ⟨xb,xo,rfl,lx,cx,x64⟩ := (H.out.ext hbw).int hx
    have hct := HF.out wo x hbw (List.mem_of_getElem? hx) x64
    have t1 : (0 : Int) ≤ (i : Int) := by omega
    have t2 : (i : Int) < (ll : Int) := by omega
    obtain ⟨z,hz⟩ : ∃ z,z = cf x := ⟨_,rfl⟩
    rw [← hz] at hct
    have HBW := Lib.hid hbw; clear hbw
    have H1 := Lib.hid h1; clear h1
    have H2 := Lib.hid h2; clear h2
    have HX := Lib.hid hx; clear hx
    have X64 := Lib.hid x64; clear x64
    have HCT := Lib.hid hct; clear hct
    have HFIN := Lib.hid hfin; clear hfin
    have HZ := Lib.hid hz; clear hz
    go_wp2_with fail
    go_fit HCT.out; rintro e w1 ⟨rfl,hb1⟩
    have hb2 := bel_trans HBW.out hb1
    have HB1 := Lib.hid hb1; clear hb1
    have HB2 := Lib.hid hb2; clear hb2
    go_wp2_with fail
    go_ret2
    have hil2 : i ≤ xs.length := by have := HLEN.out; omega
    first | exact ⟨i,_,rfl,hil2,HFIN.out,HB2.out⟩ | exact ⟨hil2,HFIN.out,HB2.out⟩
   ·have HBW := Lib.hid hbw; clear hbw
    have H1 := Lib.hid h1; clear h1
    have H2 := Lib.hid h2; clear h2
    have HFIN := Lib.hid hfin; clear hfin
    go_wp2_with fail
    go_ret2
    have hil2 : i ≤ xs.length := by have := HLEN.out; omega
    first | exact ⟨i,_,rfl,hil2,HFIN.out,HBW.out⟩ | exact ⟨hil2,HFIN.out,HBW.out⟩
end Go.Proofs.YtbfbkpoakmnlpaaGreat
/- Slices of ints of the call's own that may begin behind a row's head (OwnO); the contract of slices.Insert of one int over them. -/
namespace Go.Proofs.YtbfbkpoakmnlpaaGreat
open Go.RowKit Go.Shelf
def OwnO (W : World) (B : Nat) (v : Value) (xs : List Int) : Prop := (v = .slice none 0 0 ∧ xs = []) ∨
 ∃ g o cap cur,v = .slice (some ⟨g,o,none⟩) xs.length cap ∧ B ≤ g ∧ Blk W g 3 cur ∧ xs.length ≤ cap ∧ cap ≤ 9223372036854775807 ∧ o + cap ≤ cur.size ∧ ∀ i x,xs[i]? = some x → cur[o + i]? = some (.int .i64 x)
theorem OwnO.nil (W : World) (B : Nat) : OwnO W B (.slice none 0 0) [] := .inl ⟨rfl,rfl⟩
theorem OwnO.keptS {W W' : World} {B : Nat} {v : Value} {xs : List Int} {S : List Nat} (h : OwnO W B v xs) (hk : Kept S W W') (hS : ∀ k,v.ownBlock = some k → k ∉ S) : OwnO W' B v xs := by
 rcases h with h | ⟨g,o,cap,cur,rfl,h1,h2,h3⟩
 ·exact .inl h
 ·exact .inr ⟨g,o,cap,cur,rfl,h1,hk.blk h2 (hS g rfl),h3⟩
theorem OwnO.bel {W W' : World} {B : Nat} {v : Value} {xs : List Int} (h : OwnO W B v xs) (hb : Below W.heap.size W W') : OwnO W' B v xs := h.keptS (Kept.of_below hb []) (by simp)
theorem OwnO.lt {W : World} {B : Nat} {v : Value} {xs : List Int} (h : OwnO W B v xs) {k : Nat} (hk : v.ownBlock = some k) : B ≤ k ∧ k < W.heap.size := by
 rcases h with ⟨rfl,-⟩ | ⟨g,o,cap,cur,rfl,h1,h2,h3⟩
 ·cases hk
 ·have e : g = k := by simpa [Value.ownBlock] using hk
  subst e
  exact ⟨h1,h2.lt⟩
theorem OwnO.sl {W : World} {B : Nat} {v : Value} {xs : List Int} (h : OwnO W B v xs) (hs : xs.length ≤ 17592186044416) (h64 : ∀ x ∈ xs,I64 x) : ∃ A c,v = .slice A xs.length c ∧ SlIs intR W A xs.length c xs := by
 rcases h with ⟨rfl,rfl⟩ | ⟨g,o,cap,cur,rfl,h1,h2,h3,h4,h5,h6⟩
 ·exact ⟨none,0,rfl,SlIs.nil _ _⟩
 ·refine ⟨_,cap,rfl,rfl,h3,⟨h4,hs⟩,fun _ => ⟨_,rfl,h2.lt,fun i x hx => ⟨[.int .i64 x],⟨rfl,h64 x (List.mem_of_getElem? hx)⟩,fun j u hu => ?_⟩⟩⟩
  match j,hu with
  | 0,hu =>
   simp at hu; subst hu
   rw [add_none]
   simp only [intR,Nat.mul_one,Nat.add_zero]
   rw [h2.cell]; exact h6 i x hx
  | j + 1,hu => simp at hu
theorem OwnO.tail {W : World} {B g o l cap : Nat} {x : Int} {xs : List Int} (h : OwnO W B (.slice (some ⟨g,o,none⟩) l cap) (x :: xs)) (hc : 1 < cap) : OwnO W B (.slice (some ⟨g,o + 1,none⟩) xs.length (cap - 1)) xs := by
 rcases h with ⟨e,-⟩ | ⟨g',o',cap',cur,e,h1,h2,h3,h4,h5,h6⟩
 ·cases e
 ·cases e
  rw [List.length_cons] at h3
  exact .inr ⟨g,o + 1,cap - 1,cur,rfl,h1,h2,by omega,by omega,by omega,fun i y hy => by
   have := h6 (i + 1) y (by simpa using hy)
   rwa [show o + 1 + i = o + (i + 1) by omega]⟩
theorem OwnO.tail1 {W : World} {B g o l : Nat} {x : Int} {xs : List Int} (h : OwnO W B (.slice (some ⟨g,o,none⟩) l 1) (x :: xs)) : OwnO W B (.slice (some ⟨g,o,none⟩) 0 0) xs ∧ xs = [] := by
 rcases h with ⟨e,-⟩ | ⟨g',o',cap',cur,e,h1,h2,h3,h4,h5,h6⟩
 ·cases e
 ·cases e
  rw [List.length_cons] at h3
  have hx : xs = [] := List.eq_nil_of_length_eq_zero (by omega)
  subst hx
  exact ⟨.inr ⟨g,o,0,cur,rfl,h1,h2,Nat.le_refl _,by omega,by omega,fun i y hy => by simp at hy⟩,rfl⟩
def putA : Array Value → Nat → List Value → Array Value
 | cur,_,[] => cur
 | cur,o,v :: r => putA (cur.setIfInBounds o v) (o + 1) r
theorem putA_size : ∀ (vs : List Value) (cur : Array Value) (o : Nat),(putA cur o vs).size = cur.size
 | [],cur,o => rfl
 | v :: r,cur,o => by rw [putA,putA_size r]; simp
theorem putA_out : ∀ (vs : List Value) (cur : Array Value) (o j : Nat),j < o ∨ o + vs.length ≤ j → (putA cur o vs)[j]? = cur[j]?
 | [],cur,o,j,_ => rfl
 | v :: r,cur,o,j,h => by
  rw [putA,putA_out r _ _ j (by simp at h; omega),Array.getElem?_setIfInBounds_ne (by simp at h; omega)]
theorem putA_in : ∀ (vs : List Value) (cur : Array Value) (o j : Nat) (v : Value),vs[j]? = some v → o + j < cur.size → (putA cur o vs)[o + j]? = some v
 | [],cur,o,j,v,h,_ => by simp at h
 | u :: r,cur,o,0,v,h,hl => by
  have : u = v := by simpa using h
  subst this
  rw [putA,putA_out r _ _ _ (by omega),Nat.add_zero,Array.getElem?_setIfInBounds_self_of_lt (by omega)]
 | u :: r,cur,o,j + 1,v,h,hl => by
  rw [putA,show o + (j + 1) = (o + 1) + j by omega]
  exact putA_in r _ _ j v (by simpa using h) (by simp; omega)
theorem blk_setCells {g : Nat} {t : TypeId} : ∀ (vs : List Value) (o : Nat) {w : World} {cur : Array Value},Blk w g t cur → Blk (w.setCells g o vs) g t (putA cur o vs)
 | [],_,_,_,h => h
 | v :: r,o,_,_,h => blk_setCells r (o + 1) (h.set_ o v)
theorem kept_setCells {g : Nat} : ∀ (vs : List Value) (o : Nat) (w : World),Kept [g] w (w.setCells g o vs)
 | [],o,w => Kept.refl _ _
 | v :: r,o,w => ((Kept.refl [g] w).set (p := ⟨g,o,none⟩) (.inl (by simp)) v).trans (kept_setCells r (o + 1) _)
theorem kept_setCells_new {S : List Nat} {a : World} {g : Nat} (hg : a.heap.size ≤ g) : ∀ (vs : List Value) (o : Nat) {w : World},Kept S a w → Kept S a (w.setCells g o vs)
 | [],_,_,h => h
 | v :: r,o,_,h => kept_setCells_new hg r (o + 1) (h.set (p := ⟨g,o,none⟩) (.inr hg) v)
theorem blk_shape {w : World} {g : Nat} {t : TypeId} {cs : Array Value} (h : Blk w g t cs) : w.shape? g = some (t,cs.size) := by
 unfold Blk at h
 simp [World.shape?,h]
set_option maxHeartbeats 4000000 in
theorem insert_any {W : World} {B : Nat} {v : Value} {xs : List Int} (h : OwnO W B v xs) (hB : B ≤ W.heap.size) (k : Nat) (hk : k ≤ xs.length) (y : Int) (q : Nat) (hq : Blk W q 3 #[.int .i64 y]) (hqv : v.ownBlock ≠ some q) (hl : xs.length ≤ 1000000) :
  Calls Tryz.prog 62 #[v,.int .i64 (k : Int),.slice (some ⟨q,0,none⟩) 1 1] W fun e w' => ∃ v',e = .returned v' ∧ OwnO w' B v' (xs.take k ++ y :: xs.drop k) ∧ Kept v.ownBlock.toList W w' ∧ ∀ b,v'.ownBlock = some b → v.ownBlock = some b ∨ W.heap.size ≤ b := by
 have hvs : ∀ j u,[Value.int .i64 y][j]? = some u → W.cell? ⟨q,0 + j,none⟩ = some u := fun j u hu => by
  match j,hu with
  | 0,hu => rw [Nat.zero_add,hq.cell]; simpa using hu
  | j + 1,hu => simp at hu
 have h1v : ∀ u ∈ [Value.int .i64 y],u.oneCell' = true := by simp [Value.oneCell']
 have ez : ((Value.int .i64 0).cells).size = 1 := rfl
 rcases h with ⟨rfl,rfl⟩ | ⟨g,o,cap,cur,rfl,h1,h2,h3,h4,h5,h6⟩
 ·obtain rfl : k = 0 := by simpa using hk
  refine (Any2.slices_Insert_int_end_grow (P := Tryz.prog) (ρ := insertI_ren) { insertI with } none 0 0 q 0 1 1 [] [.int .i64 y] W (by omega) (by omega) (by omega) (by omega) rfl rfl (fun _ => rfl) (fun a e => by cases e) hvs h1v).mono ?_
  rintro e w' ⟨rfl,rfl⟩
  have hg1 := grownCap_ge W (0 + 1) 0 (insertI_ren.t 3)
  have hg2 := grownCap_le_maxLen W (0 + 1) 0 (insertI_ren.t 3) (by unfold maxLen; omega)
  have hb : Blk (W.drew.alloc (.cells (([] ++ [Value.int .i64 y]).toArray ++ Builtin.zeroCells (Value.int .i64 0).cells (grownCap W (0 + 1) 0 (insertI_ren.t 3) - (0 + 1))) (insertI_ren.t 3))) W.heap.size 3 (([] ++ [Value.int .i64 y]).toArray ++ Builtin.zeroCells (Value.int .i64 0).cells (grownCap W (0 + 1) 0 (insertI_ren.t 3) - (0 + 1))) := blk_new rfl _ _
  refine ⟨_,rfl,.inr ⟨W.heap.size,0,_,_,rfl,hB,hb,hg1,hg2,?_,fun i x hx => ?_⟩,Kept.of_below (bel_trans (Below.refl _ _).drew (bel_alloc _ _)) _,fun b hb => .inr ?_⟩
  ·rw [Array.size_append,size_zeroCells,ez]; simp; omega
  ·match i,hx with
   | 0,hx =>
    have : y = x := by simpa using hx
    subst this
    rw [Nat.zero_add,Array.getElem?_append_left (by simp)]; rfl
   | i + 1,hx => simp at hx
  ·have e : W.heap.size = b := by simpa [Value.ownBlock] using hb
   omega
 ·have hcs : ∀ j u,(xs.map (Value.int .i64))[j]? = some u → W.cell? ⟨g,o + j,none⟩ = some u := fun j u hu => by
   rw [List.getElem?_map,Option.map_eq_some_iff] at hu
   obtain ⟨x,hx,rfl⟩ := hu
   rw [h2.cell]; exact h6 j x hx
  have h1c : ∀ u ∈ xs.map (Value.int .i64),u.oneCell' = true := fun u hu => by
   obtain ⟨x,-,rfl⟩ := List.mem_map.1 hu
   rfl
  have hne : q ≠ g := fun e => hqv (by rw [e]; rfl)
  have hown : (Value.slice (some ⟨g,o,none⟩) xs.length cap).ownBlock.toList = [g] := rfl
  rw [hown]
  have hlen : (xs.take k ++ y :: xs.drop k).length = xs.length + 1 := by simp; omega
  have new_at : ∀ i x,(xs.take k ++ y :: xs.drop k)[i]? = some x → (i < k ∧ xs[i]? = some x) ∨ (i = k ∧ x = y) ∨ (k < i ∧ xs[i - 1]? = some x) := fun i x hx => by
   have htl : (xs.take k).length = k := by rw [List.length_take]; omega
   rcases Nat.lt_trichotomy i k with hi | hi | hi
   ·rw [List.getElem?_append_left (by omega),List.getElem?_take,if_pos hi] at hx
    exact .inl ⟨hi,hx⟩
   ·subst hi
    rw [List.getElem?_append_right (by omega),htl,Nat.sub_self] at hx
    exact .inr (.inl ⟨rfl,by simpa using hx.symm⟩)
   ·rw [List.getElem?_append_right (by omega),htl,show i - k = (i - k - 1) + 1 by omega,List.getElem?_cons_succ,List.getElem?_drop,show k + (i - k - 1) = i - 1 by omega] at hx
    exact .inr (.inr ⟨hi,hx⟩)
  by_cases hroom : xs.length + 1 ≤ cap
  ·by_cases hkn : k = xs.length
   ·subst hkn
    refine (Any2.slices_Insert_int_end_room (P := Tryz.prog) (ρ := insertI_ren) { insertI with } g o xs.length cap q 0 1 1 [.int .i64 y] W (by omega) hroom h4 rfl (fun j hj => ?_) (fun j hj => h2.frozen _) hvs h1v).mono ?_
    ·rw [h2.cell,Array.getElem?_eq_getElem (by omega)]; rfl
    rintro e w' ⟨rfl,rfl⟩
    refine ⟨_,rfl,.inr ⟨g,o,cap,_,by rw [hlen],h1,blk_setCells _ _ h2,by omega,h4,by rw [putA_size]; exact h5,fun i x hx => ?_⟩,kept_setCells _ _ _,fun b hb => .inl hb⟩
    rcases new_at i x hx with ⟨hi,hx⟩ | ⟨hi,rfl⟩ | ⟨hi,hx⟩
    ·rw [putA_out _ _ _ _ (by omega)]; exact h6 i x hx
    ·subst hi
     exact putA_in [Value.int .i64 x] cur (o + xs.length) 0 _ rfl (by omega)
    ·have := (List.getElem?_eq_some_iff.1 hx).1; omega
   ·have hfa := hq.frozen 0
    refine (Any2.slices_Insert_int_shift (P := Tryz.prog) (ρ := insertI_ren) { insertI with } g o xs.length cap k q 0 1 1 (xs.map (Value.int .i64)) [.int .i64 y] W (by omega) (by omega) hroom h4 hne (by simp) rfl hcs (fun j hj => ?_) (fun j hj => h2.frozen _) hvs h1c h1v _ _ _ _ (blk_shape hq) (blk_shape h2) (by omega) hfa (hq.frozen _)).mono ?_
    ·rw [h2.cell,Array.getElem?_eq_getElem (by omega)]; rfl
    rintro e w' ⟨rfl,rfl⟩
    have hb1 := blk_setCells ((xs.map (Value.int .i64)).drop k) (o + (k + 1)) h2.drew
    have hb2 := blk_setCells [Value.int .i64 y] (o + k) hb1
    refine ⟨_,rfl,.inr ⟨g,o,cap,_,by rw [hlen],h1,hb2,by omega,h4,by rw [putA_size,putA_size]; exact h5,fun i x hx => ?_⟩,((Kept.refl [g] W).drew.trans (kept_setCells _ _ _)).trans (kept_setCells _ _ _),fun b hb => .inl hb⟩
    rcases new_at i x hx with ⟨hi,hx⟩ | ⟨hi,rfl⟩ | ⟨hi,hx⟩
    ·rw [putA_out _ _ _ _ (by omega),putA_out _ _ _ _ (by omega)]; exact h6 i x hx
    ·subst hi
     exact putA_in [Value.int .i64 x] _ (o + i) 0 _ rfl (by rw [putA_size]; omega)
    ·have hxl := (List.getElem?_eq_some_iff.1 hx).1
     rw [putA_out _ _ _ _ (by simp; omega),show o + i = (o + (k + 1)) + (i - (k + 1)) by omega]
     refine putA_in _ cur _ _ _ ?_ (by omega)
     rw [List.getElem?_drop,List.getElem?_map,show k + (i - (k + 1)) = i - 1 by omega,hx]; rfl
  ·by_cases hkn : k = xs.length
   ·subst hkn
    refine (Any2.slices_Insert_int_end_grow (P := Tryz.prog) (ρ := insertI_ren) { insertI with } (some ⟨g,o,none⟩) xs.length cap q 0 1 1 (xs.map (Value.int .i64)) [.int .i64 y] W (by omega) h3 (by omega) (by omega) (by simp) rfl (fun e => by cases e) (fun a e j u hu => by cases e; rw [add_none]; exact hcs j u hu) hvs h1v).mono ?_
    rintro e w' ⟨rfl,rfl⟩
    have hg1 := grownCap_ge W (xs.length + 1) cap (insertI_ren.t 3)
    have hg2 := grownCap_le_maxLen W (xs.length + 1) cap (insertI_ren.t 3) (by unfold maxLen; omega)
    generalize grownCap W (xs.length + 1) cap (insertI_ren.t 3) = gc at *
    have hb : Blk (W.drew.alloc (.cells ((xs.map (Value.int .i64) ++ [Value.int .i64 y]).toArray ++ Builtin.zeroCells (Value.int .i64 0).cells (gc - (xs.length + 1))) (insertI_ren.t 3))) W.heap.size 3 _ := blk_new rfl _ _
    refine ⟨_,rfl,.inr ⟨W.heap.size,0,_,_,by rw [hlen],hB,hb,by omega,hg2,?_,fun i x hx => ?_⟩,Kept.of_below (bel_trans (Below.refl _ _).drew (bel_alloc _ _)) _,fun b hb => .inr ?_⟩
    ·rw [Array.size_append,size_zeroCells,ez]; simp; omega
    ·have hi : i < xs.length + 1 := by have := (List.getElem?_eq_some_iff.1 hx).1; omega
     rw [Nat.zero_add,Array.getElem?_append_left (by simp; omega),List.getElem?_toArray]
     rcases new_at i x hx with ⟨hi,hx⟩ | ⟨hi,rfl⟩ | ⟨hi,hx⟩
     ·rw [List.getElem?_append_left (by simp; omega),List.getElem?_map,hx]; rfl
     ·subst hi
      rw [List.getElem?_append_right (by simp)]; simp
     ·omega
    ·have e : W.heap.size = b := by simpa [Value.ownBlock] using hb
     omega
   ·refine (Any2.slices_Insert_int_grow (P := Tryz.prog) (ρ := insertI_ren) { insertI with } g o xs.length cap k q 0 1 1 (xs.map (Value.int .i64)) [.int .i64 y] W (by omega) (by omega) h3 (by omega) (by omega) (by simp) rfl hcs hvs h1c h1v).mono ?_
    rintro e w' ⟨rfl,rfl⟩
    have hg1 := grownCap_ge W (xs.length + 1) cap (insertI_ren.t 3)
    have hg2 := grownCap_le_maxLen W (xs.length + 1) cap (insertI_ren.t 3) (by unfold maxLen; omega)
    generalize grownCap W (xs.length + 1) cap (insertI_ren.t 3) = gc at *
    have hb0 : Blk (W.alloc (.cells (((xs.map (Value.int .i64)).take k).toArray ++ Builtin.zeroCells (Value.int .i64 0).cells (xs.length + 1 - k) ++ Builtin.zeroCells (Value.int .i64 0).cells (gc - (xs.length + 1))) (insertI_ren.t 3))) W.heap.size 3 _ := blk_new rfl _ _
    have hsz : (((xs.map (Value.int .i64)).take k).toArray ++ Builtin.zeroCells (Value.int .i64 0).cells (xs.length + 1 - k) ++ Builtin.zeroCells (Value.int .i64 0).cells (gc - (xs.length + 1))).size = gc := by
     rw [Array.size_append,Array.size_append,size_zeroCells,size_zeroCells,ez]; simp; omega
    have hfst : ∀ i x,i < k → xs[i]? = some x → (((xs.map (Value.int .i64)).take k).toArray ++ Builtin.zeroCells (Value.int .i64 0).cells (xs.length + 1 - k) ++ Builtin.zeroCells (Value.int .i64 0).cells (gc - (xs.length + 1)))[i]? = some (.int .i64 x) := fun i x hi hx => by
     rw [Array.append_assoc,Array.getElem?_append_left (by simp; omega),List.getElem?_toArray,List.getElem?_take,if_pos hi,List.getElem?_map,hx]; rfl
    generalize (((xs.map (Value.int .i64)).take k).toArray ++ Builtin.zeroCells (Value.int .i64 0).cells (xs.length + 1 - k) ++ Builtin.zeroCells (Value.int .i64 0).cells (gc - (xs.length + 1))) = cur0 at *
    have hb1 := blk_setCells [Value.int .i64 y] k hb0.drew
    have hb2 := blk_setCells ((xs.map (Value.int .i64)).drop k) (k + 1) hb1.drew
    have hkk : Kept [g] W _ := kept_setCells_new (Nat.le_refl _) ((xs.map (Value.int .i64)).drop k) (k + 1) (kept_setCells_new (Nat.le_refl _) [Value.int .i64 y] k (Kept.of_below (bel_alloc W (.cells cur0 (insertI_ren.t 3))) [g]).drew).drew
    refine ⟨_,rfl,.inr ⟨W.heap.size,0,_,_,by rw [hlen],hB,hb2,by omega,hg2,by rw [putA_size,putA_size]; omega,fun i x hx => ?_⟩,hkk,fun b hb => .inr ?_⟩
    ·rw [Nat.zero_add]
     rcases new_at i x hx with ⟨hi,hx⟩ | ⟨hi,rfl⟩ | ⟨hi,hx⟩
     ·rw [putA_out _ _ _ _ (by omega),putA_out _ _ _ _ (by omega)]; exact hfst i x hi hx
     ·subst hi
      rw [putA_out _ _ _ _ (by omega)]
      exact putA_in [Value.int .i64 x] _ i 0 _ rfl (by omega)
     ·have hxl := (List.getElem?_eq_some_iff.1 hx).1
      rw [show i = (k + 1) + (i - (k + 1)) by omega]
      refine putA_in _ _ _ _ _ ?_ (by rw [putA_size]; omega)
      rw [List.getElem?_drop,List.getElem?_map,show k + (i - (k + 1)) = i - 1 by omega,hx]; rfl
    ·have e : W.heap.size = b := by simpa [Value.ownBlock] using hb
     omega
end Go.Proofs.YtbfbkpoakmnlpaaGreat
/- Contracts: the closures of graph.sorted. -/
namespace Go.Proofs.YtbfbkpoakmnlpaaGreat
open Go.RowKit
theorem head_at {cs : List (List Int)} {x : Nat} {c : List Int} (h : cs[x]? = some c) (hne : c ≠ []) : c[0]? = some (headF cs (x : Int)) := by
 unfold headF
 rw [Int.toNat_natCast,List.getD_eq_getElem?_getD,h]
 cases c with
 | nil => exact absurd rfl hne
 | cons a t => rfl
theorem tw_take {p : Int → Bool} : ∀ (xs : List Int) (k : Nat),k ≤ xs.length → (∀ (i : Nat) x,xs[i]? = some x → (i < k ↔ p x = true)) → xs.takeWhile p = xs.take k ∧ xs.dropWhile p = xs.drop k
 | [],k,h,_ => by
  have : k = 0 := by simpa using h
  subst this; simp
 | x :: r,0,_,h => by
  have hx : p x = false := by
   have := h 0 x rfl
   cases hp : p x with
   | false => rfl
   | true => exact absurd (this.2 hp) (by omega)
  rw [List.takeWhile_cons,List.dropWhile_cons,hx]
  simp
 | x :: r,k + 1,hk,h => by
  have hx : p x = true := (h 0 x rfl).1 (by omega)
  obtain ⟨i1,i2⟩ := tw_take (p := p) r k (by simpa using hk) (fun i y hy => by
   have := h (i + 1) y (by simpa using hy)
   exact ⟨fun q => this.1 (by omega),fun q => by have := this.2 q; omega⟩)
  rw [List.takeWhile_cons,List.dropWhile_cons,hx]
  simp [i1,i2]
theorem cmpI_neg (x y : Int) : cmpI x y < 0 ↔ x < y := by
 unfold cmpI
 split
 ·simp [*]
 ·split <;> omega
set_option maxRecDepth 100000 in
set_option maxHeartbeats 2000000 in
theorem srt11_any (c3 : Nat) (cA : Option Addr) (cl cc : Nat) (cs : List (List Int)) (x y : Nat) (w : World) (hb : w.cell? ⟨c3,0,none⟩ = some (.slice cA cl cc)) (hs : SlIs (slR intR) w cA cl cc cs) (hx : x < cl) (hy : y < cl) (hne : ∀ c ∈ cs,c ≠ []) :
  Calls Tryz.prog 60 #[.int .i64 (x : Int),.int .i64 (y : Int),.pointer (some ⟨c3,0,none⟩)] w fun e w' => e = .returned (.int .i64 (cmpI (headF cs (x : Int)) (headF cs (y : Int)))) ∧ Below w.heap.size w w' := by
 have hlc := hs.cap
 have hlm := hs.max
 obtain ⟨r1,e1,-⟩ := hs.drop hx
 obtain ⟨r2,e2,-⟩ := hs.drop hy
 have n1 := hne r1 (List.mem_of_getElem? e1)
 have n2 := hne r2 (List.mem_of_getElem? e2)
 obtain ⟨xb,xo,xA,xl,xc,rfl,lx,c1,s1⟩ := hs.set e1
 obtain ⟨yb,yo,yA,yl,yc,ee,ly,c2,s2⟩ := hs.set e2
 injection ee with ee
 injection ee with ee1 ee2 _
 subst ee1 ee2
 obtain ⟨hb1,ho1,rfl,lz,c3',z64⟩ := s1.int (head_at e1 n1)
 obtain ⟨hb2,ho2,rfl,lz2,c4,z642⟩ := s2.int (head_at e2 n2)
 have p1 : 0 < xl := by rw [s1.len]; exact List.length_pos_iff.2 n1
 have p2 : 0 < yl := by rw [s2.len]; exact List.length_pos_iff.2 n2
 have q1 : (0 : Int) < (xl : Int) := by omega
 have q2 : (0 : Int) < (yl : Int) := by omega
 have q3 : (0 : Int) ≤ (x : Int) := by omega
 have q4 : (x : Int) < (cl : Int) := by omega
 have q5 : (0 : Int) ≤ (y : Int) := by omega
 have q6 : (y : Int) < (cl : Int) := by omega
 have m1 := s1.cap
 have m2 := s1.max
 have m3 := s2.cap
 have m4 := s2.max
 rw [Nat.add_zero] at c3' c4
 obtain ⟨h1,he1⟩ : ∃ h1,h1 = headF cs (x : Int) := ⟨_,rfl⟩
 obtain ⟨h2,he2⟩ : ∃ h2,h2 = headF cs (y : Int) := ⟨_,rfl⟩
 rw [← he1] at c3'
 rw [← he2] at c4
 rw [← he1,← he2]
 clear n1 n2 hne lx ly lz lz2
 have HS := Lib.hid hs; clear hs
 have E1 := Lib.hid e1; clear e1
 have E2 := Lib.hid e2; clear e2
 have S1 := Lib.hid s1; clear s1
 have S2 := Lib.hid s2; clear s2
 have Z64 := Lib.hid z64; clear z64
 have Z642 := Lib.hid z642; clear z642
 have HE1 := Lib.hid he1; clear he1
 have HE2 := Lib.hid he2; clear he2
 go_enter Tryz.func60,Tryz.ntmps60
 go_wp2_with fail
 refine wp_region_later [(⟨c3,0,none⟩,.slice (some ⟨xb,xo,none⟩) cl cc),(⟨xb,xo + x,none⟩,.slice (some ⟨hb1,ho1,none⟩) xl xc),(⟨hb1,ho1,none⟩,.int .i64 h1),(⟨xb,xo + y,none⟩,.slice (some ⟨hb2,ho2,none⟩) yl yc),(⟨hb2,ho2,none⟩,.int .i64 h2)] (by kernel_rfl) (by kernel_rfl) (by simp [go_sem, *]) ?_
 intro hk; simp only [List.forall_mem_cons] at hk; obtain ⟨k1_0,k1_1,k1_2,k1_3,k1_4,kz⟩ := hk; clear kz
 repeat go_big_quiet_step ((first | (go_at_call 61; exact Calls.later_same (compare_any h1 h2 _))))
 refine wpQuiet_nil ?_
 rintro w2 ⟨u1,rfl⟩
 have HU1 := Lib.hid u1.h
 clear k1_0 k1_1 k1_2 k1_3 k1_4
 go_wp2_with fail
 go_ret
 exact ⟨rfl,HU1.out⟩
theorem OwnO.shape {W : World} {B : Nat} {v : Value} {xs : List Int} (h : OwnO W B v xs) : ∃ A c,v = .slice A xs.length c := by
 rcases h with ⟨rfl,rfl⟩ | ⟨g,o,cap,cur,rfl,h1⟩
 ·exact ⟨_,_,rfl⟩
 ·exact ⟨_,_,rfl⟩
set_option maxRecDepth 100000 in
set_option maxHeartbeats 2000000 in
theorem put_any (rb c3 : Nat) (cA : Option Addr) (cl cc : Nat) (cs : List (List Int)) (v : Value) (xs : List Int) (B i : Nat) (w : World) (hr : Blk w rb 23 #[v]) (ho : OwnO w B v xs) (hB : B ≤ w.heap.size) (hrb : rb < B)
  (hc : Blk w c3 44 #[.slice cA cl cc]) (hs : SlIs (slR intR) w cA cl cc cs) (hi : i < cl) (hx : ∀ x ∈ xs,0 ≤ x ∧ x < (cl : Int)) (hne : ∀ c ∈ cs,c ≠ []) (hsrt : xs.Pairwise fun x y => headF cs x < headF cs y) (hl : xs.length ≤ 5000) (hcl : cl ≤ 5000) :
  Calls Tryz.prog 58 #[.int .i64 (i : Int),.pointer (some ⟨rb,0,none⟩),.pointer (some ⟨c3,0,none⟩)] w fun e w' => e = .returned (.tuple #[]) ∧ ∃ v',Blk w' rb 23 #[v'] ∧ OwnO w' B v' (putR (headF cs) xs (i : Int)) ∧ Kept (rb :: v.ownBlock.toList) w w' ∧ ∀ b,v'.ownBlock = some b → v.ownBlock = some b ∨ w.heap.size ≤ b := by
 have h64 : ∀ x ∈ xs,I64 x := fun x h => by have := hx x h; unfold I64; omega
 obtain ⟨sA,sc,rfl,hsl⟩ := ho.sl (by omega) h64
 have hcb := hc.cell 0
 have hbs := bsearch_any sA xs.length sc xs (i : Int) 60 #[.pointer (some ⟨c3,0,none⟩)] (fun x => cmpI (headF cs x) (headF cs (i : Int))) w hsl (by omega) (fun args W => by kernel_rfl) (fun W x hb hm _ => by
  obtain ⟨xn,rfl⟩ : ∃ xn : Nat,x = (xn : Int) := ⟨x.toNat,by have := hx x hm; omega⟩
  exact srt11_any c3 cA cl cc cs xn i W ((hc.bel hb).cell 0) (hs.ext hb) (by have := hx _ hm; omega) hi hne) (fun a b x y hab ha hb hlt => by
  rw [cmpI_neg] at hlt ⊢
  rcases Nat.eq_or_lt_of_le hab with e | e
  ·subst e
   rw [ha] at hb; cases hb
   exact hlt
  ·obtain ⟨hal,rfl⟩ := List.getElem?_eq_some_iff.1 ha
   obtain ⟨hbl,rfl⟩ := List.getElem?_eq_some_iff.1 hb
   have := List.pairwise_iff_getElem.1 hsrt a b hal hbl e
   omega)
 have m0 : w.cell? ⟨rb,0,none⟩ = some (.slice sA xs.length sc) := hr.cell 0
 obtain ⟨xl,hxl⟩ : ∃ xl,xl = xs.length := ⟨_,rfl⟩
 rw [← hxl] at m0 hbs hr ho hsl
 have HR := Lib.hid hr; clear hr
 have HO := Lib.hid ho; clear ho
 have HC := Lib.hid hc; clear hc
 have HS := Lib.hid hs; clear hs
 have HX := Lib.hid hx; clear hx
 have HNE := Lib.hid hne; clear hne
 have HSRT := Lib.hid hsrt; clear hsrt
 have H64 := Lib.hid h64; clear h64
 have HSL := Lib.hid hsl; clear hsl
 have HCB := Lib.hid hcb; clear hcb
 have HBS := Lib.hid hbs; clear hbs
 have HXL := Lib.hid hxl; clear hxl
 go_enter Tryz.func58,Tryz.ntmps58
 go_wp2_with fail
 go_fit HBS.out; rintro e w1 ⟨k,b,rfl,hk,hkx,hb1⟩
 have hk : k ≤ xs.length := HXL.out ▸ hk
 have ho1 := HO.out.bel hb1
 have hr1 := HR.out.bel hb1
 have m1 : w1.cell? ⟨rb,0,none⟩ = some (.slice sA xl sc) := hr1.cell 0
 have hrl := hr1.lt
 have hal := bel_alloc w1 (.cells #[.int .i64 (i : Int)] 3)
 have hq : Blk (w1.alloc (.cells #[.int .i64 (i : Int)] 3)) w1.heap.size 3 #[.int .i64 (i : Int)] := blk_new rfl _ _
 have hnq : (Value.slice sA xl sc).ownBlock ≠ some w1.heap.size := fun e => by have := (ho1.lt e).2; omega
 have hB1 : B ≤ w1.heap.size := Nat.le_trans hB hb1.size
 have hin := insert_any (ho1.bel hal) (by simp; omega) k hk (i : Int) w1.heap.size hq hnq (by omega)
 obtain ⟨e1,e2⟩ := tw_take (p := fun x => decide (headF cs x < headF cs (i : Int))) xs k hk (fun a x ha => by
  rw [hkx a x ha,cmpI_neg,decide_eq_true_eq])
 have hpe : xs.take k ++ (i : Int) :: xs.drop k = putR (headF cs) xs (i : Int) := by
  unfold putR
  rw [e1,e2]
 rw [hpe] at hin
 have hr2 := hr1.bel hal
 have hsz1 := hb1.size
 have HK := Lib.hid hk; clear hk
 have HKX := Lib.hid hkx; clear hkx
 have HB1 := Lib.hid hb1; clear hb1
 have HO1 := Lib.hid ho1; clear ho1
 have HR1 := Lib.hid hr1; clear hr1
 have HAL := Lib.hid hal; clear hal
 have HQ := Lib.hid hq; clear hq
 have HNQ := Lib.hid hnq; clear hnq
 have HIN := Lib.hid hin; clear hin
 have E1 := Lib.hid e1; clear e1
 have E2 := Lib.hid e2; clear e2
 have HPE := Lib.hid hpe; clear hpe
 have HR2 := Lib.hid hr2; clear hr2
 go_wp2_with fail
 go_fit HIN.out; rintro e w2 ⟨v',rfl,hov,hkv,hvb⟩
 have hro : rb ∉ (Value.slice sA xl sc).ownBlock.toList := fun hm => by have := (HO.out.lt (by simpa using hm)).1; omega
 have hr3 := hkv.blk HR2.out hro
 have m3 : w2.cell? ⟨rb,0,none⟩ = some (.slice sA xl sc) := hr3.cell 0
 have f3 := hr3.frozen 0
 have hr4 := hr3.set_ 0 v'
 have hov4 := hov.keptS (S := [rb]) (W' := w2.setCell ⟨rb,0,none⟩ v') ((Kept.refl _ _).set (.inl (by simp)) _) (fun q hq hm => by
  have e : q = rb := by simpa using hm
  subst e
  have := (hov.lt hq).1; omega)
 have hkk : Kept (rb :: (Value.slice sA xl sc).ownBlock.toList) w (w2.setCell ⟨rb,0,none⟩ v') := ((((Kept.of_below HB1.out _).trans (Kept.of_below HAL.out _)).trans (hkv.more (fun q hq => List.mem_cons_of_mem _ hq)))).set (.inl (by simp)) _
 have hvb2 : ∀ b,v'.ownBlock = some b → (Value.slice sA xl sc).ownBlock = some b ∨ w.heap.size ≤ b := fun b hb => (hvb b hb).imp id (fun h => by simp at h; omega)
 obtain ⟨A5,c5,rfl⟩ := hov.shape
 have HOV := Lib.hid hov; clear hov
 have HKV := Lib.hid hkv; clear hkv
 have HVB := Lib.hid hvb; clear hvb
 have HR3 := Lib.hid hr3; clear hr3
 have HR4 := Lib.hid hr4; clear hr4
 have HOV4 := Lib.hid hov4; clear hov4
 have HKK := Lib.hid hkk; clear hkk
 have HVB2 := Lib.hid hvb2; clear hvb2
 go_wp2_with fail
 go_end0
 exact ⟨rfl,_,HR4.out,HOV4.out,by rw [← HXL.out]; exact HKK.out,by rw [← HXL.out]; exact HVB2.out⟩
end Go.Proofs.YtbfbkpoakmnlpaaGreat
