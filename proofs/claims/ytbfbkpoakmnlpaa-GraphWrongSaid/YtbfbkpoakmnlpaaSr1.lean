/- Contracts: the closures of graph.sorted. -/
import Derived.Test.YtbfbkpoakmnlpaaBsf
import Derived.Test.YtbfbkpoakmnlpaaOws
import Derived.Test.YtbfbkpoakmnlpaaKhs
namespace Go.Proofs.Ytbfbkpoakmnlpaa
open Go.RowKit

theorem head_at {cs : List (List Int)} {x : Nat} {c : List Int} (h : cs[x]? = some c) (hne : c ≠ []) : c[0]? = some (headF cs (x : Int)) := by
  unfold headF
  rw [Int.toNat_natCast, List.getD_eq_getElem?_getD, h]
  cases c with
  | nil => exact absurd rfl hne
  | cons a t => rfl
theorem tw_take {p : Int → Bool} : ∀ (xs : List Int) (k : Nat), k ≤ xs.length → (∀ (i : Nat) x, xs[i]? = some x → (i < k ↔ p x = true)) → xs.takeWhile p = xs.take k ∧ xs.dropWhile p = xs.drop k
  | [], k, h, _ => by
    have : k = 0 := by simpa using h
    subst this; simp
  | x :: r, 0, _, h => by
    have hx : p x = false := by
      have := h 0 x rfl
      cases hp : p x with
      | false => rfl
      | true => exact absurd (this.2 hp) (by omega)
    rw [List.takeWhile_cons, List.dropWhile_cons, hx]
    simp
  | x :: r, k + 1, hk, h => by
    have hx : p x = true := (h 0 x rfl).1 (by omega)
    obtain ⟨i1, i2⟩ := tw_take (p := p) r k (by simpa using hk) (fun i y hy => by
      have := h (i + 1) y (by simpa using hy)
      exact ⟨fun q => this.1 (by omega), fun q => by have := this.2 q; omega⟩)
    rw [List.takeWhile_cons, List.dropWhile_cons, hx]
    simp [i1, i2]
theorem cmpI_neg (x y : Int) : cmpI x y < 0 ↔ x < y := by
  unfold cmpI
  split
  · simp [*]
  · split <;> omega
set_option maxRecDepth 100000 in
set_option maxHeartbeats 2000000 in
theorem srt11_any (c3 : Nat) (cA : Option Addr) (cl cc : Nat) (cs : List (List Int)) (x y : Nat) (w : World) (hb : w.cell? ⟨c3, 0, none⟩ = some (.slice cA cl cc)) (hs : SlIs (slR intR) w cA cl cc cs) (hx : x < cl) (hy : y < cl) (hne : ∀ c ∈ cs, c ≠ []) :
    Calls Try.prog 57 #[.int .i64 (x : Int), .int .i64 (y : Int), .pointer (some ⟨c3, 0, none⟩)] w fun e w' => e = .returned (.int .i64 (cmpI (headF cs (x : Int)) (headF cs (y : Int)))) ∧ Below w.heap.size w w' := by
  have hlc := hs.cap
  have hlm := hs.max
  obtain ⟨r1, e1, -⟩ := hs.drop hx
  obtain ⟨r2, e2, -⟩ := hs.drop hy
  have n1 := hne r1 (List.mem_of_getElem? e1)
  have n2 := hne r2 (List.mem_of_getElem? e2)
  obtain ⟨xb, xo, xA, xl, xc, rfl, lx, c1, s1⟩ := hs.set e1
  obtain ⟨yb, yo, yA, yl, yc, ee, ly, c2, s2⟩ := hs.set e2
  injection ee with ee
  injection ee with ee1 ee2 _
  subst ee1 ee2
  obtain ⟨hb1, ho1, rfl, lz, c3', z64⟩ := s1.int (head_at e1 n1)
  obtain ⟨hb2, ho2, rfl, lz2, c4, z642⟩ := s2.int (head_at e2 n2)
  have p1 : 0 < xl := by rw [s1.len]; exact List.length_pos_iff.2 n1
  have p2 : 0 < yl := by rw [s2.len]; exact List.length_pos_iff.2 n2
  have q1 : (0 : Int) < (xl : Int) := by omega
  have q2 : (0 : Int) < (yl : Int) := by omega
  have q3 : (0 : Int) ≤ (x : Int) := by omega
  have q4 : (x : Int) < (cl : Int) := by omega
  have q5 : (0 : Int) ≤ (y : Int) := by omega
  have q6 : (y : Int) < (cl : Int) := by omega
  have m1 := s1.cap
  have m2 := s1.max
  have m3 := s2.cap
  have m4 := s2.max
  rw [Nat.add_zero] at c3' c4
  obtain ⟨h1, he1⟩ : ∃ h1, h1 = headF cs (x : Int) := ⟨_, rfl⟩
  obtain ⟨h2, he2⟩ : ∃ h2, h2 = headF cs (y : Int) := ⟨_, rfl⟩
  rw [← he1] at c3'
  rw [← he2] at c4
  rw [← he1, ← he2]
  clear n1 n2 hne lx ly lz lz2
  have HS := Lib.hid hs; clear hs
  have E1 := Lib.hid e1; clear e1
  have E2 := Lib.hid e2; clear e2
  have S1 := Lib.hid s1; clear s1
  have S2 := Lib.hid s2; clear s2
  have Z64 := Lib.hid z64; clear z64
  have Z642 := Lib.hid z642; clear z642
  have HE1 := Lib.hid he1; clear he1
  have HE2 := Lib.hid he2; clear he2
  go_enter Try.func57, Try.ntmps57
  go_wp2_with fail
  refine wp_region_later [(⟨c3, 0, none⟩, .slice (some ⟨xb, xo, none⟩) cl cc), (⟨xb, xo + x, none⟩, .slice (some ⟨hb1, ho1, none⟩) xl xc), (⟨hb1, ho1, none⟩, .int .i64 h1), (⟨xb, xo + y, none⟩, .slice (some ⟨hb2, ho2, none⟩) yl yc), (⟨hb2, ho2, none⟩, .int .i64 h2)] (by kernel_rfl) (by kernel_rfl) (by simp [go_sem, *]) ?_
  intro hk; simp only [List.forall_mem_cons] at hk; obtain ⟨k1_0, k1_1, k1_2, k1_3, k1_4, kz⟩ := hk; clear kz
  repeat go_big_quiet_step ((first | (go_at_call 58; exact Calls.later_same (compare_any h1 h2 _))))
  refine wpQuiet_nil ?_
  rintro w2 ⟨u1, rfl⟩
  have HU1 := Lib.hid u1.h
  clear k1_0 k1_1 k1_2 k1_3 k1_4
  go_wp2_with fail
  go_ret
  exact ⟨rfl, HU1.out⟩
theorem OwnO.shape {W : World} {B : Nat} {v : Value} {xs : List Int} (h : OwnO W B v xs) : ∃ A c, v = .slice A xs.length c := by
  rcases h with ⟨rfl, rfl⟩ | ⟨g, o, cap, cur, rfl, h1⟩
  · exact ⟨_, _, rfl⟩
  · exact ⟨_, _, rfl⟩
set_option maxRecDepth 100000 in
set_option maxHeartbeats 2000000 in
theorem put_any (rb c3 : Nat) (cA : Option Addr) (cl cc : Nat) (cs : List (List Int)) (v : Value) (xs : List Int) (B i : Nat) (w : World) (hr : Blk w rb 23 #[v]) (ho : OwnO w B v xs) (hB : B ≤ w.heap.size) (hrb : rb < B)
    (hc : Blk w c3 34 #[.slice cA cl cc]) (hs : SlIs (slR intR) w cA cl cc cs) (hi : i < cl) (hx : ∀ x ∈ xs, 0 ≤ x ∧ x < (cl : Int)) (hne : ∀ c ∈ cs, c ≠ []) (hsrt : xs.Pairwise fun x y => headF cs x < headF cs y) (hl : xs.length ≤ 5000) (hcl : cl ≤ 5000) :
    Calls Try.prog 55 #[.int .i64 (i : Int), .pointer (some ⟨rb, 0, none⟩), .pointer (some ⟨c3, 0, none⟩)] w fun e w' => e = .returned (.tuple #[]) ∧ ∃ v', Blk w' rb 23 #[v'] ∧ OwnO w' B v' (putR (headF cs) xs (i : Int)) ∧ Kept (rb :: v.ownBlock.toList) w w' ∧ ∀ b, v'.ownBlock = some b → v.ownBlock = some b ∨ w.heap.size ≤ b := by
  have h64 : ∀ x ∈ xs, I64 x := fun x h => by have := hx x h; unfold I64; omega
  obtain ⟨sA, sc, rfl, hsl⟩ := ho.sl (by omega) h64
  have hcb := hc.cell 0
  have hbs := bsearch_any sA xs.length sc xs (i : Int) 57 #[.pointer (some ⟨c3, 0, none⟩)] (fun x => cmpI (headF cs x) (headF cs (i : Int))) w hsl (by omega) (fun args W => by kernel_rfl) (fun W x hb hm _ => by
    obtain ⟨xn, rfl⟩ : ∃ xn : Nat, x = (xn : Int) := ⟨x.toNat, by have := hx x hm; omega⟩
    exact srt11_any c3 cA cl cc cs xn i W ((hc.bel hb).cell 0) (hs.ext hb) (by have := hx _ hm; omega) hi hne) (fun a b x y hab ha hb hlt => by
    rw [cmpI_neg] at hlt ⊢
    rcases Nat.eq_or_lt_of_le hab with e | e
    · subst e
      rw [ha] at hb; cases hb
      exact hlt
    · obtain ⟨hal, rfl⟩ := List.getElem?_eq_some_iff.1 ha
      obtain ⟨hbl, rfl⟩ := List.getElem?_eq_some_iff.1 hb
      have := List.pairwise_iff_getElem.1 hsrt a b hal hbl e
      omega)
  have m0 : w.cell? ⟨rb, 0, none⟩ = some (.slice sA xs.length sc) := hr.cell 0
  obtain ⟨xl, hxl⟩ : ∃ xl, xl = xs.length := ⟨_, rfl⟩
  rw [← hxl] at m0 hbs hr ho hsl
  have HR := Lib.hid hr; clear hr
  have HO := Lib.hid ho; clear ho
  have HC := Lib.hid hc; clear hc
  have HS := Lib.hid hs; clear hs
  have HX := Lib.hid hx; clear hx
  have HNE := Lib.hid hne; clear hne
  have HSRT := Lib.hid hsrt; clear hsrt
  have H64 := Lib.hid h64; clear h64
  have HSL := Lib.hid hsl; clear hsl
  have HCB := Lib.hid hcb; clear hcb
  have HBS := Lib.hid hbs; clear hbs
  have HXL := Lib.hid hxl; clear hxl
  go_enter Try.func55, Try.ntmps55
  go_wp2_with fail
  go_fit HBS.out; rintro e w1 ⟨k, b, rfl, hk, hkx, hb1⟩
  have hk : k ≤ xs.length := HXL.out ▸ hk
  have ho1 := HO.out.bel hb1
  have hr1 := HR.out.bel hb1
  have m1 : w1.cell? ⟨rb, 0, none⟩ = some (.slice sA xl sc) := hr1.cell 0
  have hrl := hr1.lt
  have hal := bel_alloc w1 (.cells #[.int .i64 (i : Int)] 3)
  have hq : Blk (w1.alloc (.cells #[.int .i64 (i : Int)] 3)) w1.heap.size 3 #[.int .i64 (i : Int)] := blk_new rfl _ _
  have hnq : (Value.slice sA xl sc).ownBlock ≠ some w1.heap.size := fun e => by have := (ho1.lt e).2; omega
  have hB1 : B ≤ w1.heap.size := Nat.le_trans hB hb1.size
  have hin := insert_any (ho1.bel hal) (by simp; omega) k hk (i : Int) w1.heap.size hq hnq (by omega)
  obtain ⟨e1, e2⟩ := tw_take (p := fun x => decide (headF cs x < headF cs (i : Int))) xs k hk (fun a x ha => by
    rw [hkx a x ha, cmpI_neg, decide_eq_true_eq])
  have hpe : xs.take k ++ (i : Int) :: xs.drop k = putR (headF cs) xs (i : Int) := by
    unfold putR
    rw [e1, e2]
  rw [hpe] at hin
  have hr2 := hr1.bel hal
  have hsz1 := hb1.size
  have HK := Lib.hid hk; clear hk
  have HKX := Lib.hid hkx; clear hkx
  have HB1 := Lib.hid hb1; clear hb1
  have HO1 := Lib.hid ho1; clear ho1
  have HR1 := Lib.hid hr1; clear hr1
  have HAL := Lib.hid hal; clear hal
  have HQ := Lib.hid hq; clear hq
  have HNQ := Lib.hid hnq; clear hnq
  have HIN := Lib.hid hin; clear hin
  have E1 := Lib.hid e1; clear e1
  have E2 := Lib.hid e2; clear e2
  have HPE := Lib.hid hpe; clear hpe
  have HR2 := Lib.hid hr2; clear hr2
  go_wp2_with fail
  go_fit HIN.out; rintro e w2 ⟨v', rfl, hov, hkv, hvb⟩
  have hro : rb ∉ (Value.slice sA xl sc).ownBlock.toList := fun hm => by have := (HO.out.lt (by simpa using hm)).1; omega
  have hr3 := hkv.blk HR2.out hro
  have m3 : w2.cell? ⟨rb, 0, none⟩ = some (.slice sA xl sc) := hr3.cell 0
  have f3 := hr3.frozen 0
  have hr4 := hr3.set_ 0 v'
  have hov4 := hov.keptS (S := [rb]) (W' := w2.setCell ⟨rb, 0, none⟩ v') ((Kept.refl _ _).set (.inl (by simp)) _) (fun q hq hm => by
    have e : q = rb := by simpa using hm
    subst e
    have := (hov.lt hq).1; omega)
  have hkk : Kept (rb :: (Value.slice sA xl sc).ownBlock.toList) w (w2.setCell ⟨rb, 0, none⟩ v') := ((((Kept.of_below HB1.out _).trans (Kept.of_below HAL.out _)).trans (hkv.more (fun q hq => List.mem_cons_of_mem _ hq)))).set (.inl (by simp)) _
  have hvb2 : ∀ b, v'.ownBlock = some b → (Value.slice sA xl sc).ownBlock = some b ∨ w.heap.size ≤ b := fun b hb => (hvb b hb).imp id (fun h => by simp at h; omega)
  obtain ⟨A5, c5, rfl⟩ := hov.shape
  have HOV := Lib.hid hov; clear hov
  have HKV := Lib.hid hkv; clear hkv
  have HVB := Lib.hid hvb; clear hvb
  have HR3 := Lib.hid hr3; clear hr3
  have HR4 := Lib.hid hr4; clear hr4
  have HOV4 := Lib.hid hov4; clear hov4
  have HKK := Lib.hid hkk; clear hkk
  have HVB2 := Lib.hid hvb2; clear hvb2
  go_wp2_with fail
  go_end0
  exact ⟨rfl, _, HR4.out, HOV4.out, by rw [← HXL.out]; exact HKK.out, by rw [← HXL.out]; exact HVB2.out⟩
end Go.Proofs.Ytbfbkpoakmnlpaa
