/- quote: Scan. -/
import Derived.Test.YtpoameaaoapiiaaDoorQe
import Derived.Test.YtpoameaaoapiiaaDoorQpl
namespace Go.Proofs.YtpoameaaoapiiaaDoor
open Go.RowKit

/-- What is between two rounds of Scan. -/
structure ScanI (w : World) (l : List UInt8) (r : Qt.Pt) (bb i : Nat) (s : List UInt8) (W : World) : Prop where
  ws : ScanW w l i W
  bld : Bld bb bb s W
  le : i ≤ l.length
  sl : s.length ≤ 4 * i
  go : r = Qt.go (l.drop i) s i

theorem scanW_new (w : World) (l : List UInt8) : ScanW w l 0 ((((w.alloc (.cells #[.string ⟨#[]⟩] 9)).alloc (.cells #[.int .i64 0] 3)).alloc (.cells #[.int .i64 0] 23)).alloc (.cells #[.string (str l), .int .i64 0] 38)) := by
  refine ⟨?_, ?_, ?_, ?_, ?_⟩
  · exact ((((Below.refl _ w).alloc (Nat.le_refl _) _).alloc (by simp) _).alloc (by simp; omega) _).alloc (by simp; omega) _
  · exact (((Boxed.new w _ _).alloc _).alloc _).alloc _
  · have := ((Boxed.new (w.alloc (.cells #[.string ⟨#[]⟩] 9)) 3 (.int .i64 0)).alloc (.cells #[.int .i64 0] 23)).alloc (.cells #[.string (str l), .int .i64 0] 38)
    rwa [World.size_alloc] at this
  · have := (Boxed.new ((w.alloc (.cells #[.string ⟨#[]⟩] 9)).alloc (.cells #[.int .i64 0] 3)) 23 (.int .i64 0)).alloc (.cells #[.string (str l), .int .i64 0] 38)
    rwa [World.size_alloc, World.size_alloc] at this
  · have := World.alloc_heap_new (((w.alloc (.cells #[.string ⟨#[]⟩] 9)).alloc (.cells #[.int .i64 0] 3)).alloc (.cells #[.int .i64 0] 23)) (.cells #[.string (str l), .int .i64 0] 38)
    rw [World.size_alloc, World.size_alloc, World.size_alloc] at this
    exact this
theorem Bld.lt {B b : Nat} {s : List UInt8} {W : World} (h : Bld B b s W) : b < W.heap.size := by
  rcases h with h | h
  · exact h.lt
  · exact h.lt
theorem ScanI.head {w : World} {l s : List UInt8} {r : Qt.Pt} {bb i : Nat} {W : World} (h : ScanI w l r bb i s W) (hi : i < l.length) (hq : Qt.bt l i = 34) : r = ⟨s, i + 1, 0⟩ := by
  rw [h.go, Qt.go_quote]
  rw [Qt.quote_at]; simp [hi, hq]
theorem ScanI.fail {w : World} {l s : List UInt8} {r : Qt.Pt} {bb i : Nat} {W : World} (h : ScanI w l r bb i s W) (hq : Qt.bt l i ≠ 34) (he : (Qt.part (l.drop i)).e ≠ 0) : r = Qt.err (Qt.part (l.drop i)).e := by
  rw [h.go, Qt.go_err]
  · rw [Qt.quote_at]; simp [hq]
  · exact he
theorem ScanI.next {w : World} {l s : List UInt8} {r : Qt.Pt} {bb i : Nat} {W : World} (h : ScanI w l r bb i s W) (hi : i < l.length) (hq : Qt.bt l i ≠ 34) (q : Qt.Pt) (hp : q = Qt.part (l.drop i)) (he : q.e = 0) {W' : World}
    (hW : ScanW w l (i + q.n) W') (hb : Bld bb bb (s ++ q.s) W') : ScanI w l r bb (i + q.n) (s ++ q.s) W' ∧ 1 ≤ q.n := by
  subst hp
  have h1 := Qt.part_ok he
  have h2 := Qt.part_len he
  have h3 := h.sl
  rw [List.length_drop] at h1
  refine ⟨⟨hW, hb, by omega, by rw [List.length_append]; omega, ?_⟩, h1.1⟩
  rw [h.go, Qt.go_part _ _ (by rw [Qt.quote_at]; simp [hq]) he, List.drop_drop]

set_option maxHeartbeats 4000000 in
set_option maxRecDepth 1000000 in
theorem qscan_go (c : UInt8) (rest : List UInt8) (w : World) (hF : Forms w) (hl : rest.length + 1 ≤ 1000000) (hc : c.toNat = 34) :
    Calls Tryd.prog 9 #[.string (str (c :: rest))] w fun e w' => e = .returned (scanV (Qt.scan (c :: rest))) ∧ Below w.heap.size w w' := by
  have hmf : ∀ (fn : Fn) (first cap : Array Value) (w : World), (Instr.makeFunc fn first cap).run Tryd.prog w = .ok (.func fn first cap) w := fun _ _ _ _ => rfl
  obtain ⟨r, hr⟩ : ∃ r, r = Qt.scan (c :: rest) := ⟨_, rfl⟩
  rw [← hr]
  rw [Qt.scan_cons, if_neg (by omega)] at hr
  obtain ⟨l, hl0⟩ : ∃ l, l = c :: rest := ⟨_, rfl⟩
  have hdr : rest = l.drop 1 := by rw [hl0]; rfl
  have hlen : l.length = rest.length + 1 := by rw [hl0]; rfl
  have hb0 : Qt.bt l 0 = 34 := by rw [hl0]; exact hc
  rw [← hl0]
  rw [hdr] at hr
  have HR := Lib.hid hr
  clear hl0 hdr hr hc
  have hl1 : 0 < l.length := by omega
  have hl6 : l.length ≤ 1000000 := by omega
  have HL := Lib.hid hlen
  clear hlen hl
  go_enter_defers Tryd.func9, Tryd.ntmps9
  go_wp2_with fail
  have hW0 : ScanW w l 0 ((((w.alloc (.cells #[.string ⟨#[]⟩] 9)).alloc (.cells #[.int .i64 0] 3)).alloc (.cells #[.int .i64 0] 23)).alloc (.cells #[.string (str l), .int .i64 0] 38)) := scanW_new w l
  have hs0 : ((((w.alloc (.cells #[.string ⟨#[]⟩] 9)).alloc (.cells #[.int .i64 0] 3)).alloc (.cells #[.int .i64 0] 23)).alloc (.cells #[.string (str l), .int .i64 0] 38)).heap.size = w.heap.size + 1 + 1 + 1 + 1 := by simp
  generalize hW : (((w.alloc (.cells #[.string ⟨#[]⟩] 9)).alloc (.cells #[.int .i64 0] 3)).alloc (.cells #[.int .i64 0] 23)).alloc (.cells #[.string (str l), .int .i64 0] 38) = W at *
  refine (qexactly_ok _ 0 34 l W hW0.r hl1 (by omega) hb0).mono ?_
  clear hW
  rintro e w2 ⟨rfl, hR2, hE2⟩
  have hW2 := hW0.ext hE2 hR2
  clear hW0 hR2 hE2 hb0 hs0
  go_wp2_with fail
  have hbb : w.heap.size + 1 + 1 + 1 < w2.heap.size := hW2.r.lt
  have hI0 : ScanI w l r w2.heap.size 1 [] (w2.alloc (.cells #[.pointer none, .slice none 0 0] 43)) :=
    ⟨hW2.below' ((Below.refl _ w2).alloc (Nat.le_refl _) _) hbb, Lib.fresh_isBuilder 43 5 w2, by omega, by simp, HR.out⟩
  have hsz : w2.heap.size < (w2.alloc (.cells #[.pointer none, .slice none 0 0] 43)).heap.size := by simp
  generalize w2.alloc (.cells #[.pointer none, .slice none 0 0] 43) = W3 at hI0 hsz ⊢
  generalize w2.heap.size = bb at hI0 hsz hbb ⊢
  clear hW2 HR
  go_loopg [13] (l.length - 1) (fun k _ wr => ∃ i s, k = l.length - i ∧ ScanI w l r bb i s wr)
  case atStart => exact ⟨1, [], rfl, hI0⟩
  case round =>
    obtain ⟨i, s, rfl, hI⟩ := hrel
    have c1 := hI.ws.r.cell1
    by_cases hi : i < l.length
    · have hd : decide ((i : Int) < (l.length : Int)) = true := by simpa using hi
      have hix : nth l i = (Qt.bt l i : Int) := rfl
      have e1 : 0 ≤ (i : Int) ∧ (i : Int) < l.length := by omega
      have hb256 : Qt.bt l i < 256 := (l.getD i 0).toNat_lt
      have f1 := hI.ws.r.frozen 1
      have HI := Lib.hid hI
      clear hI
      obtain ⟨c, hc⟩ : ∃ c, c = Qt.bt l i := ⟨_, rfl⟩
      have HC := Lib.hid hc
      rw [← hc] at hix hb256
      clear hc
      by_cases h34 : c = 34
      · have hcb : ((c : Int) == 34) = true := by simp; omega
        have HQ : Hid (r = ⟨s, i + 1, 0⟩) := by
          unfold Hid
          exact HI.out.head hi (by rw [← HC.out, h34])
        have hst := fun W h hB => bstring_any bb bb s W h hB
        have hBl := HI.out.bld
        have hWS := HI.out.ws
        have hw1 : IntKind.i64.wrap ((i : Int) + 1) = (i : Int) + 1 := IntWalk.i64_in _ (by omega)
        clear h34
        go_wp2_with fail
        refine (must_yes' _ _ _ (by simp)).mono ?_
        rintro e w4 ⟨rfl, rfl⟩
        go_wp2_with fail
        clear hix hcb hd e1
        go_region_held3 (fun w' => w'.cell? ⟨w.heap.size + 1 + 1 + 1, 1, none⟩ = some (.int .i64 i)) ((first | go_keep | ((repeat rw [World.cell?_setCell_other _ _ _ _ (by simp; try omega)]); assumption))) ((go_at_call 18; refine (hst _ ?_ ?_).mono ?_; (first | exact hBl | exact hBl.ext (Ext.refl (fun _ => False) _).drew (fun _ h => h.elim)); (first | exact Nat.le_of_lt hBl.lt); rintro e w5 ⟨rfl, hB5⟩; have hW5 := (hWS.below' (Below.refl bb _).drew hbb).below' hB5 hbb; have k1 := hW5.r.cell1; have k2 := hW5.s.cell; have k3 := hW5.n.cell; have k4 := hW5.e.cell; have m2 := hW5.s.frozen; have m3 := hW5.n.frozen; have m4 := hW5.e.frozen))
        all_goals
          go_wp2
          refine scan_tells HQ ?_ ?_ ?_ ?_ ⟨rfl, rfl, rfl⟩
          · exact ((hW5.below.setCell (p := ⟨w.heap.size, 0, none⟩) (Nat.le_refl _) _).setCell (p := ⟨w.heap.size + 1, 0, none⟩) (by simp) _).setCell (p := ⟨w.heap.size + 1 + 1, 0, none⟩) (by simp; omega) _
          · exact ((hW5.s.set _).other (by omega) _).other (by omega) _
          · rw [show ((i + 1 : Nat) : Int) = (i : Int) + 1 by omega]
            exact (((hW5.n.other (by omega) _).set _).other (by omega) _)
          · exact (((hW5.e.other (by omega) _).other (by omega) _).set _)
      · have hcb : ((c : Int) == 34) = false := by simp; omega
        by_cases h92 : c = 92
        · have hcb2 : ((c : Int) == 92) = true := by simp; omega
          have hR1 := HI.out.ws.r.set (i + 1)
          have hE1 : QE (w.heap.size + 1 + 1 + 1) wr (wr.setCell ⟨w.heap.size + 1 + 1 + 1, 1, none⟩ (.int .i64 ((i + 1 : Nat) : Int))) := Ext.setCell (T := fun k => k = w.heap.size + 1 + 1 + 1) (p := ⟨w.heap.size + 1 + 1 + 1, 1, none⟩) (Ext.refl _ _) rfl _
          have hF1 := forms_QE (hF.below HI.out.ws.below) HI.out.ws.r hE1
          have hp : Qt.part (l.drop i) = Qt.esc (l.drop (i + 1)) := by
            have h1 := HC.out
            rw [Qt.part_at, if_neg (by omega), if_neg (by omega), if_neg (by omega)]
          have hesc := qescape_any (w.heap.size + 1 + 1 + 1) (i + 1) l _ hR1 hF1 (by omega)
          rw [← hp] at hesc
          have hq34 : Qt.bt l i ≠ 34 := by rw [← HC.out]; exact h34
          have HP := Lib.hid (And.intro hq34 hE1)
          have hsl := HI.out.sl
          have hw1 : ((i + 1 : Nat) : Int) = (i : Int) + 1 := by omega
          rw [hw1] at hesc HP
          generalize hqq : Qt.part (l.drop i) = q at hesc
          have HQ := Lib.hid hqq
          clear hqq hp hR1 hE1 hF1 hq34 h34 h92 hw1
          go_wp2_with fail
          refine (must_yes' _ _ _ (by simp)).mono ?_
          rintro e w4 ⟨rfl, rfl⟩
          go_wp2_with fail
          refine hesc.mono ?_
          rintro e w5 ⟨hE5, hres⟩
          have hE15 := HP.out.2.trans hE5
          rcases hres with ⟨h0, rfl, hR5⟩ | ⟨h0, rfl⟩
          · have hq5 : i + 1 + q.n - 1 = i + q.n := by omega
            rw [hq5] at hR5
            have hW5 := HI.out.ws.ext hE15 hR5
            have hB5 := HI.out.bld.ext hE15 (fun k hk => by omega)
            have hql := Qt.part_len (l := l.drop i) (by rw [HQ.out]; exact h0)
            rw [HQ.out] at hql
            have hws := bwstring_any bb bb s q.s w5 hB5 (by omega) (Nat.le_of_lt hB5.lt)
            have HH := Lib.hid (And.intro h0 hW5)
            clear h0 hq5 hR5 hW5 hE5 hB5 hesc hql
            go_wp2_with fail
            refine hws.mono ?_
            rintro e w6 ⟨rfl, hB6, hb6⟩
            obtain ⟨hI6, hn1⟩ := HI.out.next hi HP.out.1 q HQ.out.symm HH.out.1 (HH.out.2.below' hb6 hbb) hB6
            have hle := hI6.le
            go_wp2
            go_roundg (l.length - (i + q.n))
            case measure => omega
            case rel => exact ⟨i + q.n, s ++ q.s, rfl, hI6⟩
          · have HF : Hid (r = Qt.err q.e) := by
              have := HI.out.fail HP.out.1 (by rw [HQ.out]; exact h0)
              rw [HQ.out] at this
              exact this
            clear hesc
            go_wp2
            exact scan_dies HF (HI.out.ws.after hE15) ⟨rfl, rfl, rfl⟩
        · have hcb2 : ((c : Int) == 92) = false := by simp; omega
          have hF1 := hF.below HI.out.ws.below
          have hp : Qt.part (l.drop i) = Qt.plainP l i := by
            have h1 := HC.out
            rw [Qt.part_at, if_neg (by omega)]
            unfold Qt.plainP
            by_cases h32 : Qt.bt l i < 32
            · rw [if_pos h32, if_pos h32]
            · rw [if_neg h32, if_neg h32, if_pos (by omega)]
          have hesc := qplain_any (w.heap.size + 1 + 1 + 1) i l wr HI.out.ws.r hF1 hi (by omega)
          rw [← hp] at hesc
          have hq34 : Qt.bt l i ≠ 34 := by rw [← HC.out]; exact h34
          have HP := Lib.hid hq34
          have hsl := HI.out.sl
          generalize hqq : Qt.part (l.drop i) = q at hesc
          have HQ := Lib.hid hqq
          clear hqq hp hF1 hq34 h34 h92
          go_wp2_with fail
          refine (must_yes' _ _ _ (by simp)).mono ?_
          rintro e w4 ⟨rfl, rfl⟩
          go_wp2_with fail
          refine hesc.mono ?_
          rintro e w5 ⟨hE15, hres⟩
          rcases hres with ⟨h0, rfl, hR5⟩ | ⟨h0, rfl⟩
          · have hW5 := HI.out.ws.ext hE15 hR5
            have hB5 := HI.out.bld.ext hE15 (fun k hk => by omega)
            have hql := Qt.part_len (l := l.drop i) (by rw [HQ.out]; exact h0)
            rw [HQ.out] at hql
            have hws := bwstring_any bb bb s q.s w5 hB5 (by omega) (Nat.le_of_lt hB5.lt)
            have HH := Lib.hid (And.intro h0 hW5)
            clear h0 hR5 hW5 hB5 hesc hql
            go_wp2_with fail
            refine hws.mono ?_
            rintro e w6 ⟨rfl, hB6, hb6⟩
            obtain ⟨hI6, hn1⟩ := HI.out.next hi HP.out q HQ.out.symm HH.out.1 (HH.out.2.below' hb6 hbb) hB6
            have hle := hI6.le
            go_wp2
            go_roundg (l.length - (i + q.n))
            case measure => omega
            case rel => exact ⟨i + q.n, s ++ q.s, rfl, hI6⟩
          · have HF : Hid (r = Qt.err q.e) := by
              have := HI.out.fail HP.out (by rw [HQ.out]; exact h0)
              rw [HQ.out] at this
              exact this
            clear hesc
            go_wp2
            exact scan_dies HF (HI.out.ws.after hE15) ⟨rfl, rfl, rfl⟩
    · have hd : decide ((i : Int) < (l.length : Int)) = false := by simp; omega
      have HQ : Hid (r = Qt.err 2) := by
        unfold Hid
        rw [hI.go, List.drop_eq_nil_of_le (by omega)]; rfl
      go_wp2_with fail
      refine (must_no' _ _ _ (by simp)).mono ?_
      rintro e w4 ⟨rfl, rfl⟩
      go_wp2
      exact scan_dies HQ (hI.ws.after (Ext.refl _ _)) ⟨rfl, rfl, rfl⟩
end Go.Proofs.YtpoameaaoapiiaaDoor
