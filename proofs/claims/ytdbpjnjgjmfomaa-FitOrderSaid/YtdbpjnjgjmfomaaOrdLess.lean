/- fit.Order's closure: it compares two of the ratios by their indexes, the greater first. -/
import Derived.Test.YtdbpjnjgjmfomaaRsV
import Derived.Test.YtdbpjnjgjmfomaaInsPure
namespace Go.Proofs.Ytdbpjnjgjmfomaa
open Go.RowKit

set_option maxHeartbeats 8000000 in
set_option maxRecDepth 100000 in
theorem ord_less {S : Nat → Prop} {A : Option Addr} {c pb : Nat} {es : List Rt} (w : World) (hp : w.cell? ⟨pb, 0, none⟩ = some (.slice A es.length c)) (hv : RsV S w A es) (hl : Short es) (h20 : es.length ≤ 20) (x y : Nat) (hx : x < es.length) (hy : y < es.length) :
    Calls Try.prog 78 #[.int .i64 (x : Int), .int .i64 (y : Int), .pointer (some ⟨pb, 0, none⟩)] w fun e w' => e = .returned (.int .i64 (cmpR (qe (es.getD y rt0)) (qe (es.getD x rt0)))) ∧ Below w.heap.size w w' := by
  have hx' := hx
  have hy' := hy
  obtain ⟨ad, rfl, xxN, xxA, xxk, xxc, xxB, xxm, xxd, x0, x1, x2, ex1, ex2, hIx⟩ := hv.at x hx
  obtain ⟨ad', e, yyN, yyA, yyk, yyc, yyB, yym, yyd, y0, y1, y2, ey1, ey2, hIy⟩ := hv.at y hy
  injection e with e
  subst e
  have hlx := hl h20 x hx
  have hly := hl h20 y hy
  replace hx := (hIx.le (n := 1000) (by omega) : RatI S w _ _ 1000)
  replace hy := (hIy.le (n := 1000) (by omega) : RatI S w _ _ 1000)
  have px := eq_true (show (x : Int) < (es.length : Int) by omega)
  have py := eq_true (show (y : Int) < (es.length : Int) by omega)
  have px0 := eq_true (show 0 ≤ (x : Int) by omega)
  have py0 := eq_true (show 0 ≤ (y : Int) by omega)
  clear hIx hIy hl hv hlx hly ex1 ex2 ey1 ey2
  generalize qe (es.getD x rt0) = p at *
  generalize qe (es.getD y rt0) = q at *
  generalize es.length = n at *
  go_enter Try.func78, Try.ntmps78
  have hd1 := (Below.refl w.heap.size w).drew
  replace hp := cell_below hp hd1
  replace x0 := cell_below x0 hd1
  replace x1 := cell_below x1 hd1
  replace x2 := cell_below x2 hd1
  replace y0 := cell_below y0 hd1
  replace y1 := cell_below y1 hd1
  replace y2 := cell_below y2 hd1
  replace hx := hx.below hd1
  replace hy := hy.below hd1
  go_wp2_with fail
  go_region_held3 (fun w' => w'.cell? ⟨pb, 0, none⟩ = some ((.slice (some ad) n c)) ∧ w'.cell? (ad.add (x * 3)) = some (.bool xxN) ∧ w'.cell? ⟨(ad.add (x * 3)).block, (ad.add (x * 3)).off + 1, none⟩ = some (.slice xxA xxk xxc) ∧ w'.cell? ⟨(ad.add (x * 3)).block, (ad.add (x * 3)).off + 2, none⟩ = some (.slice xxB xxm xxd) ∧ w'.cell? (ad.add (y * 3)) = some (.bool yyN) ∧ w'.cell? ⟨(ad.add (y * 3)).block, (ad.add (y * 3)).off + 1, none⟩ = some (.slice yyA yyk yyc) ∧ w'.cell? ⟨(ad.add (y * 3)).block, (ad.add (y * 3)).off + 2, none⟩ = some (.slice yyB yym yyd))
    ((first
      | exact ⟨hp, x0, x1, x2, y0, y1, y2⟩
      | exact ⟨cell_below hp hb, cell_below x0 hb, cell_below x1 hb, cell_below x2 hb, cell_below y0 hb, cell_below y1 hb, cell_below y2 hb⟩))
    (first
      | (go_at_call 33; refine (rat_Cmp _ hy hx (by omega) (by omega) (by omega)).mono ?_; rintro e w9 ⟨rfl, hb⟩; have hBB := hd1.after (by simp) hb))
  all_goals
    go_wp2_with fail
    go_ret
    exact ⟨rfl, hBB⟩
end Go.Proofs.Ytdbpjnjgjmfomaa
