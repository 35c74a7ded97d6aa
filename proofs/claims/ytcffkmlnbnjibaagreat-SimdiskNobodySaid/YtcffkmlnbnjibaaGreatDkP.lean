/- Walk: SimdiskNobody. -/
import Derived.Test.YtcffkmlnbnjibaaGreatDkO
namespace Go.Proofs.YtcffkmlnbnjibaaGreat
open Go.RowKit Go.Maps
set_option maxHeartbeats 2000000 in
set_option maxRecDepth 100000 in
theorem dnobody_calls (s : ByteArray) (n : Int) (w : World) : Calls Tryz.prog 3 #[.string s, .int .i64 n] w fun e w' => e = .returned (.bool true) ∧ Ex w w' := by
  have hX0 := ex_alloc (Ex.refl w) (.cells #[.int .i64 0, .int .i64 0, .int .i64 0, .map none, .pointer none, .pointer none] 27)
  have HZ0 : Hid (Nob (w.alloc (.cells #[.int .i64 0, .int .i64 0, .int .i64 0, .map none, .pointer none, .pointer none] 27)) (ptrV w.heap.size)) := .inr ⟨w.heap.size, rfl, by rw [(Blk.new w [.int .i64 0, .int .i64 0, .int .i64 0, .map none, .pointer none, .pointer none] 27).cell]; rfl⟩
  have HN : ∀ w : World, Nob w (.pointer none) := fun _ => .inl rfl
  have HNN := Lib.hid HN
  have HX0 := Lib.hid hX0
  clear hX0 HN
  go_enter Tryz.func3, Tryz.ntmps3
  go_wp2_with fail
  refine (nb_read s (HNN.out _)).mono ?_
  rintro e w1 ⟨rfl, hb1⟩
  have HZ1 := Lib.hid (HZ0.out.ex hb1)
  have HX1 := Lib.hid (HX0.out.trans hb1)
  clear HZ0 HX0 hb1
  go_wp2_with fail
  refine (nb_list (HZ1.out)).mono ?_
  rintro e w2 ⟨rfl, hb2⟩
  have HZ2 := Lib.hid (HZ1.out.ex hb2)
  have HX2 := Lib.hid (HX1.out.trans hb2)
  clear HZ1 HX1 hb2
  go_wp2_with fail
  refine (nb_create s (HNN.out _)).mono ?_
  rintro e w3 ⟨rfl, hb3⟩
  have HZ3 := Lib.hid (HZ2.out.ex hb3)
  have HX3 := Lib.hid (HX2.out.trans hb3)
  clear HZ2 HX2 hb3
  go_wp2_with fail
  refine (nb_append s s (HZ3.out)).mono ?_
  rintro e w4 ⟨rfl, hb4⟩
  have HZ4 := Lib.hid (HZ3.out.ex hb4)
  have HX4 := Lib.hid (HX3.out.trans hb4)
  clear HZ3 HX3 hb4
  go_wp2_with fail
  refine (nb_cut s n (HNN.out _)).mono ?_
  rintro e w5 ⟨rfl, hb5⟩
  have HZ5 := Lib.hid (HZ4.out.ex hb5)
  have HX5 := Lib.hid (HX4.out.trans hb5)
  clear HZ4 HX4 hb5
  go_wp2_with fail
  refine (nb_sync s (HZ5.out)).mono ?_
  rintro e w6 ⟨rfl, hb6⟩
  have HZ6 := Lib.hid (HZ5.out.ex hb6)
  have HX6 := Lib.hid (HX5.out.trans hb6)
  clear HZ5 HX5 hb6
  go_wp2_with fail
  refine (nb_rename s s (HNN.out _)).mono ?_
  rintro e w7 ⟨rfl, hb7⟩
  have HZ7 := Lib.hid (HZ6.out.ex hb7)
  have HX7 := Lib.hid (HX6.out.trans hb7)
  clear HZ6 HX6 hb7
  go_wp2_with fail
  refine (nb_remove s (HZ7.out)).mono ?_
  rintro e w8 ⟨rfl, hb8⟩
  have HZ8 := Lib.hid (HZ7.out.ex hb8)
  have HX8 := Lib.hid (HX7.out.trans hb8)
  clear HZ7 HX7 hb8
  go_wp2_with fail
  refine (nb_syncAll (HNN.out _)).mono ?_
  rintro e w9 ⟨rfl, hb9⟩
  have HZ9 := Lib.hid (HZ8.out.ex hb9)
  have HX9 := Lib.hid (HX8.out.trans hb9)
  clear HZ8 HX8 hb9
  go_wp2_with fail
  refine (nb_fault 0 0 (HZ9.out)).mono ?_
  rintro e w10 ⟨rfl, hb10⟩
  have HZ10 := Lib.hid (HZ9.out.ex hb10)
  have HX10 := Lib.hid (HX9.out.trans hb10)
  clear HZ9 HX9 hb10
  go_wp2_with fail
  refine (nb_files (HNN.out _)).mono ?_
  rintro e w11 ⟨rfl, hb11⟩
  have HZ11 := Lib.hid (HZ10.out.ex hb11)
  have HX11 := Lib.hid (HX10.out.trans hb11)
  clear HZ10 HX10 hb11
  go_wp2_with fail
  refine (nb_free (HNN.out _)).mono ?_
  rintro e w12 ⟨rfl, hb12⟩
  have HZ12 := Lib.hid (HZ11.out.ex hb12)
  have HX12 := Lib.hid (HX11.out.trans hb12)
  clear HZ11 HX11 hb12
  go_wp2_with fail
  refine (nb_calls (HZ12.out)).mono ?_
  rintro e w13 ⟨rfl, hb13⟩
  have HZ13 := Lib.hid (HZ12.out.ex hb13)
  have HX13 := Lib.hid (HX12.out.trans hb13)
  clear HZ12 HX12 hb13
  go_wp2_with fail
  refine (nb_crash s (HZ13.out)).mono ?_
  rintro e w14 ⟨rfl, hb14⟩
  have HZ14 := Lib.hid (HZ13.out.ex hb14)
  have HX14 := Lib.hid (HX13.out.trans hb14)
  clear HZ13 HX13 hb14
  go_wp2_with fail
  refine (nb_up (HNN.out _)).mono ?_
  rintro e w15 ⟨rfl, hb15⟩
  have HZ15 := Lib.hid (HZ14.out.ex hb15)
  have HX15 := Lib.hid (HX14.out.trans hb15)
  clear HZ14 HX14 hb15
  go_wp2_with fail
  refine (nb_up (HZ15.out)).mono ?_
  rintro e w16 ⟨rfl, hb16⟩
  have HZ16 := Lib.hid (HZ15.out.ex hb16)
  have HX16 := Lib.hid (HX15.out.trans hb16)
  clear HZ15 HX15 hb16
  go_wp2_with fail
  refine (nb_copy (HNN.out _)).mono ?_
  rintro e w17 ⟨rfl, hb17⟩
  have HZ17 := Lib.hid (HZ16.out.ex hb17)
  have HX17 := Lib.hid (HX16.out.trans hb17)
  clear HZ16 HX16 hb17
  go_wp2_with fail
  refine (dlives_calls _).mono ?_
  rintro e wl ⟨rfl, hbl⟩
  go_wp2_with fail
  go_ret
  exact ⟨rfl, HX17.out.trans hbl⟩
end Go.Proofs.YtcffkmlnbnjibaaGreat
