/-
  Parts of the proof: the ways of the pieces.
-/
import Derived.Test.YtemgdpnkhknhlaaR1
namespace Go.MW.Rc
open Go.Proofs
set_option maxRecDepth 100000

theorem c7_eq : c7 = (.seq (Code.l c7) (.seq (Code.l (Code.r c7)) (.seq (Code.l (Code.r (Code.r c7))) (.seq (Code.l (Code.r (Code.r (Code.r c7)))) (.seq (.seq (Code.l (Code.l (Code.r (Code.r (Code.r (Code.r c7)))))) (.block 0 (.loop (Code.i (Code.i (Code.r (Code.l (Code.r (Code.r (Code.r (Code.r c7))))))))))) (.seq (.seq (Code.l (Code.l (Code.r (Code.r (Code.r (Code.r (Code.r c7))))))) (.block 2 (.loop (Code.i (Code.i (Code.r (Code.l (Code.r (Code.r (Code.r (Code.r (Code.r c7)))))))))))) (.seq (.seq (Code.l (Code.l (Code.r (Code.r (Code.r (Code.r (Code.r (Code.r c7)))))))) (.block 4 (.loop (Code.i (Code.i (Code.r (Code.l (Code.r (Code.r (Code.r (Code.r (Code.r (Code.r c7))))))))))))) (.seq (.seq (Code.l (Code.l (Code.r (Code.r (Code.r (Code.r (Code.r (Code.r (Code.r c7))))))))) (.block 6 (.loop (Code.i (Code.i (Code.r (Code.l (Code.r (Code.r (Code.r (Code.r (Code.r (Code.r (Code.r c7)))))))))))))) (Code.r (Code.r (Code.r (Code.r (Code.r (Code.r (Code.r (Code.r c7)))))))))))))))) := by kernel_rfl
theorem e7 (l : Lay) (q n k : Int) : ([.agg l.pv] ++ List.replicate (Try.f7.ntmps - List.length (α := PV) [.agg l.pv]) .undef) = mkF 228 [(0, .agg l.pv)] := by kernel_rfl

theorem t7_0 (l : Lay) (q n k : Int) : (codeS Try.prog cx.E orc0 (hn l) 100 (Code.l c7) ⟨mkF 228 [(0, .agg l.pv)], [], []⟩).cut [1] true =
    (.leaf (.normal, ⟨mkF 228 [(1, (.ptr 0 0))], [(Blk.cells (Lay.pv l) Option.none)]⟩)) := by kernel_rfl
theorem t7_1 (l : Lay) (q n k : Int) : (codeS Try.prog cx.E orc0 (hn l) 100 (Code.l (Code.r c7)) ⟨mkF 228 [(1, .rptr l.pv)], [], []⟩).cut [1, 2] false =
    (.br (!inn (Lay.w l) 1 512)
    (.leaf (.ret, ⟨mkF 228 [(1, (.rptr (Lay.pv l))), (2, (.int .i64 2))], []⟩))
    (.br (!inn (Lay.h l) 1 512)
    (.leaf (.ret, ⟨mkF 228 [(1, (.rptr (Lay.pv l))), (2, (.int .i64 2))], []⟩))
    (.br (!inn (Lay.layers l) 1 6)
    (.leaf (.ret, ⟨mkF 228 [(1, (.rptr (Lay.pv l))), (2, (.int .i64 2))], []⟩))
    (.br (!inn (Lay.nets l) 0 700)
    (.leaf (.ret, ⟨mkF 228 [(1, (.rptr (Lay.pv l))), (2, (.int .i64 2))], []⟩))
    (.leaf (.normal, ⟨mkF 228 [(1, (.rptr (Lay.pv l)))], []⟩)))))) := by kernel_rfl
theorem t7_2 (l : Lay) (q n k : Int) : (codeS Try.prog cx.E orc0 (hn l) 100 (Code.l (Code.r (Code.r c7))) ⟨mkF 228 [(1, .rptr l.pv)], [], []⟩).cut [1, 2] false =
    (.br (decide (6000 < (↑(List.length (List.map Wi.pv (Lay.ws l))) : Int)))
    (.leaf (.ret, ⟨mkF 228 [(1, (.rptr (Lay.pv l))), (2, (.int .i64 3))], []⟩))
    (.br (decide (6000 < (↑(List.length (List.map Vi.pv (Lay.vs l))) : Int)))
    (.leaf (.ret, ⟨mkF 228 [(1, (.rptr (Lay.pv l))), (2, (.int .i64 3))], []⟩))
    (.br (decide (4000 < (↑(List.length (List.map Pi.pv (Lay.ps l))) : Int)))
    (.leaf (.ret, ⟨mkF 228 [(1, (.rptr (Lay.pv l))), (2, (.int .i64 3))], []⟩))
    (.br (decide (64 < (↑(List.length (List.map Wa.pv (Lay.xs l))) : Int)))
    (.leaf (.ret, ⟨mkF 228 [(1, (.rptr (Lay.pv l))), (2, (.int .i64 3))], []⟩))
    (.leaf (.normal, ⟨mkF 228 [(1, (.rptr (Lay.pv l)))], []⟩)))))) := by kernel_rfl
theorem t7_3 (l : Lay) (q n k : Int) : (codeS Try.prog cx.E orc0 (hn l) 100 (Code.l (Code.r (Code.r (Code.r c7)))) ⟨mkF 228 [(1, .rptr l.pv)], [], []⟩).cut [1, 3] false =
    (.leaf (.normal, ⟨mkF 228 [(1, (.rptr (Lay.pv l))), (3, (.int .i64 0))], []⟩)) := by kernel_rfl
theorem t7_4 (l : Lay) (q n k : Int) : (codeS Try.prog cx.E orc0 (hn l) 100 (Code.l (Code.l (Code.r (Code.r (Code.r (Code.r c7)))))) ⟨mkF 228 [(1, .rptr l.pv), (3, .int .i64 q)], [], []⟩).cut [1, 3, 58, 59, 60] false =
    (.leaf (.normal, ⟨mkF 228 [(1, (.rptr (Lay.pv l))), (3, (.int .i64 q)), (58, (.lst (List.map Wi.pv (Lay.ws l)) Bool.false)), (59, (.int .i64 ((↑(List.length (List.map Wi.pv (Lay.ws l))) : Int)))), (60, (.int .i64 0))], []⟩)) := by kernel_rfl
theorem t7_5 (l : Lay) (q n k : Int) : (codeS Try.prog cx.E orc0 (hn l) 100 (Code.i (Code.i (Code.r (Code.l (Code.r (Code.r (Code.r (Code.r c7)))))))) ⟨mkF 228 [(1, .rptr l.pv), (3, .int .i64 q), (58, .lst (l.ws.map Wi.pv) false), (59, .int .i64 n), (60, .int .i64 k)], [], []⟩).cut [1, 2, 3, 58, 59, 60] false =
    (.br (decide (k < n))
    (.need (((Kd.any : Kd) = Kd.any) ∧ ((([] : List Blk) = []) ∧ ((dindexAddr (Proofs.Try.prog) (22) ((.lst (List.map Wi.pv (Lay.ws l)) Bool.false)) ((.int .i64 k)) : Option PV) = (Option.some (PV.rptr (Wi.pv (Lay.wAt l k)))))))
    (.need (CallQ (Proofs.Try.prog) (19) ([(.agg (Lay.pv l)), (.agg (Wi.pv (Lay.wAt l k)))]) ((.int .i64 (Wi.code l (Lay.wAt l k)))))
    (.br (Wi.code l (Lay.wAt l k) != 0)
    (.leaf (.ret, ⟨mkF 228 [(1, (.rptr (Lay.pv l))), (2, (.int .i64 (Wi.code l (Lay.wAt l k)))), (3, (.int .i64 q)), (58, (.lst (List.map Wi.pv (Lay.ws l)) Bool.false)), (59, (.int .i64 n)), (60, (.int .i64 k))], [Blk.dead]⟩))
    (.leaf (.normal, ⟨mkF 228 [(1, (.rptr (Lay.pv l))), (3, (.int .i64 (IntKind.wrap IntKind.i64 (q + IntKind.wrap IntKind.i64 (IntKind.wrap IntKind.i64 (IntKind.wrap IntKind.i64 (IntKind.wrap IntKind.i64 (Wi.x1 (Lay.wAt l k) - Wi.x0 (Lay.wAt l k)) + Wi.y1 (Lay.wAt l k)) - Wi.y0 (Lay.wAt l k)) + 1))))), (58, (.lst (List.map Wi.pv (Lay.ws l)) Bool.false)), (59, (.int .i64 n)), (60, (.int .i64 (IntKind.wrap IntKind.i64 (k + 1))))], [Blk.dead]⟩)))))
    (.leaf ((.exit 0), ⟨mkF 228 [(1, (.rptr (Lay.pv l))), (3, (.int .i64 q)), (58, (.lst (List.map Wi.pv (Lay.ws l)) Bool.false)), (59, (.int .i64 n)), (60, (.int .i64 k))], []⟩))) := by kernel_rfl
theorem t7_6 (l : Lay) (q n k : Int) : (codeS Try.prog cx.E orc0 (hn l) 100 (Code.l (Code.l (Code.r (Code.r (Code.r (Code.r (Code.r c7))))))) ⟨mkF 228 [(1, .rptr l.pv), (3, .int .i64 q)], [], []⟩).cut [1, 3, 86, 87, 88] false =
    (.leaf (.normal, ⟨mkF 228 [(1, (.rptr (Lay.pv l))), (3, (.int .i64 q)), (86, (.lst (List.map Vi.pv (Lay.vs l)) Bool.false)), (87, (.int .i64 ((↑(List.length (List.map Vi.pv (Lay.vs l))) : Int)))), (88, (.int .i64 0))], []⟩)) := by kernel_rfl
theorem t7_7 (l : Lay) (q n k : Int) : (codeS Try.prog cx.E orc0 (hn l) 100 (Code.i (Code.i (Code.r (Code.l (Code.r (Code.r (Code.r (Code.r (Code.r c7))))))))) ⟨mkF 228 [(1, .rptr l.pv), (3, .int .i64 q), (86, .lst (l.vs.map Vi.pv) false), (87, .int .i64 n), (88, .int .i64 k)], [], []⟩).cut [1, 2, 3, 86, 87, 88] false =
    (.br (decide (k < n))
    (.need (((Kd.any : Kd) = Kd.any) ∧ ((([] : List Blk) = []) ∧ ((dindexAddr (Proofs.Try.prog) (23) ((.lst (List.map Vi.pv (Lay.vs l)) Bool.false)) ((.int .i64 k)) : Option PV) = (Option.some (PV.rptr (Vi.pv (Lay.vAt l k)))))))
    (.br (!inn (Vi.net (Lay.vAt l k)) 0 (IntKind.wrap IntKind.i64 (Lay.nets l - 1)))
    (.leaf (.ret, ⟨mkF 228 [(1, (.rptr (Lay.pv l))), (2, (.int .i64 7)), (3, (.int .i64 q)), (86, (.lst (List.map Vi.pv (Lay.vs l)) Bool.false)), (87, (.int .i64 n)), (88, (.int .i64 k))], [Blk.dead]⟩))
    (.br (!inn (Vi.layer (Lay.vAt l k)) 0 (IntKind.wrap IntKind.i64 (Lay.layers l - 2)))
    (.leaf (.ret, ⟨mkF 228 [(1, (.rptr (Lay.pv l))), (2, (.int .i64 2)), (3, (.int .i64 q)), (86, (.lst (List.map Vi.pv (Lay.vs l)) Bool.false)), (87, (.int .i64 n)), (88, (.int .i64 k))], [Blk.dead]⟩))
    (.br (!inn (Vi.x (Lay.vAt l k)) 0 (IntKind.wrap IntKind.i64 (Lay.w l - 1)))
    (.leaf (.ret, ⟨mkF 228 [(1, (.rptr (Lay.pv l))), (2, (.int .i64 2)), (3, (.int .i64 q)), (86, (.lst (List.map Vi.pv (Lay.vs l)) Bool.false)), (87, (.int .i64 n)), (88, (.int .i64 k))], [Blk.dead]⟩))
    (.br (!inn (Vi.y (Lay.vAt l k)) 0 (IntKind.wrap IntKind.i64 (Lay.h l - 1)))
    (.leaf (.ret, ⟨mkF 228 [(1, (.rptr (Lay.pv l))), (2, (.int .i64 2)), (3, (.int .i64 q)), (86, (.lst (List.map Vi.pv (Lay.vs l)) Bool.false)), (87, (.int .i64 n)), (88, (.int .i64 k))], [Blk.dead]⟩))
    (.leaf (.normal, ⟨mkF 228 [(1, (.rptr (Lay.pv l))), (3, (.int .i64 q)), (86, (.lst (List.map Vi.pv (Lay.vs l)) Bool.false)), (87, (.int .i64 n)), (88, (.int .i64 (IntKind.wrap IntKind.i64 (k + 1))))], [Blk.dead]⟩)))))))
    (.leaf ((.exit 2), ⟨mkF 228 [(1, (.rptr (Lay.pv l))), (3, (.int .i64 q)), (86, (.lst (List.map Vi.pv (Lay.vs l)) Bool.false)), (87, (.int .i64 n)), (88, (.int .i64 k))], []⟩))) := by kernel_rfl
theorem t7_8 (l : Lay) (q n k : Int) : (codeS Try.prog cx.E orc0 (hn l) 100 (Code.l (Code.l (Code.r (Code.r (Code.r (Code.r (Code.r (Code.r c7)))))))) ⟨mkF 228 [(1, .rptr l.pv), (3, .int .i64 q)], [], []⟩).cut [1, 3, 126, 127, 128] false =
    (.leaf (.normal, ⟨mkF 228 [(1, (.rptr (Lay.pv l))), (3, (.int .i64 q)), (126, (.lst (List.map Pi.pv (Lay.ps l)) Bool.false)), (127, (.int .i64 ((↑(List.length (List.map Pi.pv (Lay.ps l))) : Int)))), (128, (.int .i64 0))], []⟩)) := by kernel_rfl
theorem t7_9 (l : Lay) (q n k : Int) : (codeS Try.prog cx.E orc0 (hn l) 100 (Code.i (Code.i (Code.r (Code.l (Code.r (Code.r (Code.r (Code.r (Code.r (Code.r c7)))))))))) ⟨mkF 228 [(1, .rptr l.pv), (3, .int .i64 q), (126, .lst (l.ps.map Pi.pv) false), (127, .int .i64 n), (128, .int .i64 k)], [], []⟩).cut [1, 2, 3, 126, 127, 128] false =
    (.br (decide (k < n))
    (.need (((Kd.any : Kd) = Kd.any) ∧ ((([] : List Blk) = []) ∧ ((dindexAddr (Proofs.Try.prog) (24) ((.lst (List.map Pi.pv (Lay.ps l)) Bool.false)) ((.int .i64 k)) : Option PV) = (Option.some (PV.rptr (Pi.pv (Lay.pAt l k)))))))
    (.br (!inn (Pi.net (Lay.pAt l k)) 0 (IntKind.wrap IntKind.i64 (Lay.nets l - 1)))
    (.leaf (.ret, ⟨mkF 228 [(1, (.rptr (Lay.pv l))), (2, (.int .i64 7)), (3, (.int .i64 q)), (126, (.lst (List.map Pi.pv (Lay.ps l)) Bool.false)), (127, (.int .i64 n)), (128, (.int .i64 k))], [Blk.dead]⟩))
    (.br (!inn (Pi.x (Lay.pAt l k)) 0 (IntKind.wrap IntKind.i64 (Lay.w l - 1)))
    (.leaf (.ret, ⟨mkF 228 [(1, (.rptr (Lay.pv l))), (2, (.int .i64 2)), (3, (.int .i64 q)), (126, (.lst (List.map Pi.pv (Lay.ps l)) Bool.false)), (127, (.int .i64 n)), (128, (.int .i64 k))], [Blk.dead]⟩))
    (.br (!inn (Pi.y (Lay.pAt l k)) 0 (IntKind.wrap IntKind.i64 (Lay.h l - 1)))
    (.leaf (.ret, ⟨mkF 228 [(1, (.rptr (Lay.pv l))), (2, (.int .i64 2)), (3, (.int .i64 q)), (126, (.lst (List.map Pi.pv (Lay.ps l)) Bool.false)), (127, (.int .i64 n)), (128, (.int .i64 k))], [Blk.dead]⟩))
    (.br (!inn (Pi.size (Lay.pAt l k)) 0 1000)
    (.leaf (.ret, ⟨mkF 228 [(1, (.rptr (Lay.pv l))), (2, (.int .i64 2)), (3, (.int .i64 q)), (126, (.lst (List.map Pi.pv (Lay.ps l)) Bool.false)), (127, (.int .i64 n)), (128, (.int .i64 k))], [Blk.dead]⟩))
    (.br (Pi.drive (Lay.pAt l k))
    (.br (decide (0 < Pi.size (Lay.pAt l k)))
    (.leaf (.ret, ⟨mkF 228 [(1, (.rptr (Lay.pv l))), (2, (.int .i64 2)), (3, (.int .i64 q)), (126, (.lst (List.map Pi.pv (Lay.ps l)) Bool.false)), (127, (.int .i64 n)), (128, (.int .i64 k))], [Blk.dead]⟩))
    (.leaf (.normal, ⟨mkF 228 [(1, (.rptr (Lay.pv l))), (3, (.int .i64 q)), (126, (.lst (List.map Pi.pv (Lay.ps l)) Bool.false)), (127, (.int .i64 n)), (128, (.int .i64 (IntKind.wrap IntKind.i64 (k + 1))))], [Blk.dead]⟩)))
    (.leaf (.normal, ⟨mkF 228 [(1, (.rptr (Lay.pv l))), (3, (.int .i64 q)), (126, (.lst (List.map Pi.pv (Lay.ps l)) Bool.false)), (127, (.int .i64 n)), (128, (.int .i64 (IntKind.wrap IntKind.i64 (k + 1))))], [Blk.dead]⟩))))))))
    (.leaf ((.exit 4), ⟨mkF 228 [(1, (.rptr (Lay.pv l))), (3, (.int .i64 q)), (126, (.lst (List.map Pi.pv (Lay.ps l)) Bool.false)), (127, (.int .i64 n)), (128, (.int .i64 k))], []⟩))) := by kernel_rfl
theorem t7_10 (l : Lay) (q n k : Int) : (codeS Try.prog cx.E orc0 (hn l) 100 (Code.l (Code.l (Code.r (Code.r (Code.r (Code.r (Code.r (Code.r (Code.r c7))))))))) ⟨mkF 228 [(1, .rptr l.pv), (3, .int .i64 q)], [], []⟩).cut [1, 3, 172, 173, 174] false =
    (.leaf (.normal, ⟨mkF 228 [(1, (.rptr (Lay.pv l))), (3, (.int .i64 q)), (172, (.lst (List.map Wa.pv (Lay.xs l)) Bool.false)), (173, (.int .i64 ((↑(List.length (List.map Wa.pv (Lay.xs l))) : Int)))), (174, (.int .i64 0))], []⟩)) := by kernel_rfl
theorem t7_11 (l : Lay) (q n k : Int) : (codeS Try.prog cx.E orc0 (hn l) 100 (Code.i (Code.i (Code.r (Code.l (Code.r (Code.r (Code.r (Code.r (Code.r (Code.r (Code.r c7))))))))))) ⟨mkF 228 [(1, .rptr l.pv), (3, .int .i64 q), (172, .lst (l.xs.map Wa.pv) false), (173, .int .i64 n), (174, .int .i64 k)], [], []⟩).cut [1, 2, 3, 172, 173, 174] false =
    (.br (decide (k < n))
    (.need (((Kd.any : Kd) = Kd.any) ∧ ((([] : List Blk) = []) ∧ ((dindexAddr (Proofs.Try.prog) (25) ((.lst (List.map Wa.pv (Lay.xs l)) Bool.false)) ((.int .i64 k)) : Option PV) = (Option.some (PV.rptr (Wa.pv (Lay.xAt l k)))))))
    (.br (!inn (Wa.layer (Lay.xAt l k)) 0 (IntKind.wrap IntKind.i64 (Lay.layers l - 1)))
    (.leaf (.ret, ⟨mkF 228 [(1, (.rptr (Lay.pv l))), (2, (.int .i64 2)), (3, (.int .i64 q)), (172, (.lst (List.map Wa.pv (Lay.xs l)) Bool.false)), (173, (.int .i64 n)), (174, (.int .i64 k))], [Blk.dead]⟩))
    (.br (!inn (Wa.x0 (Lay.xAt l k)) 0 (IntKind.wrap IntKind.i64 (Lay.w l - 1)))
    (.leaf (.ret, ⟨mkF 228 [(1, (.rptr (Lay.pv l))), (2, (.int .i64 2)), (3, (.int .i64 q)), (172, (.lst (List.map Wa.pv (Lay.xs l)) Bool.false)), (173, (.int .i64 n)), (174, (.int .i64 k))], [Blk.dead]⟩))
    (.br (!inn (Wa.y0 (Lay.xAt l k)) 0 (IntKind.wrap IntKind.i64 (Lay.h l - 1)))
    (.leaf (.ret, ⟨mkF 228 [(1, (.rptr (Lay.pv l))), (2, (.int .i64 2)), (3, (.int .i64 q)), (172, (.lst (List.map Wa.pv (Lay.xs l)) Bool.false)), (173, (.int .i64 n)), (174, (.int .i64 k))], [Blk.dead]⟩))
    (.br (!inn (Wa.x1 (Lay.xAt l k)) (Wa.x0 (Lay.xAt l k)) (IntKind.wrap IntKind.i64 (Lay.w l - 1)))
    (.leaf (.ret, ⟨mkF 228 [(1, (.rptr (Lay.pv l))), (2, (.int .i64 2)), (3, (.int .i64 q)), (172, (.lst (List.map Wa.pv (Lay.xs l)) Bool.false)), (173, (.int .i64 n)), (174, (.int .i64 k))], [Blk.dead]⟩))
    (.br (!inn (Wa.y1 (Lay.xAt l k)) (Wa.y0 (Lay.xAt l k)) (IntKind.wrap IntKind.i64 (Lay.h l - 1)))
    (.leaf (.ret, ⟨mkF 228 [(1, (.rptr (Lay.pv l))), (2, (.int .i64 2)), (3, (.int .i64 q)), (172, (.lst (List.map Wa.pv (Lay.xs l)) Bool.false)), (173, (.int .i64 n)), (174, (.int .i64 k))], [Blk.dead]⟩))
    (.leaf (.normal, ⟨mkF 228 [(1, (.rptr (Lay.pv l))), (3, (.int .i64 q)), (172, (.lst (List.map Wa.pv (Lay.xs l)) Bool.false)), (173, (.int .i64 n)), (174, (.int .i64 (IntKind.wrap IntKind.i64 (k + 1))))], [Blk.dead]⟩))))))))
    (.leaf ((.exit 6), ⟨mkF 228 [(1, (.rptr (Lay.pv l))), (3, (.int .i64 q)), (172, (.lst (List.map Wa.pv (Lay.xs l)) Bool.false)), (173, (.int .i64 n)), (174, (.int .i64 k))], []⟩))) := by kernel_rfl
theorem t7_12 (l : Lay) (q n k : Int) : (codeS Try.prog cx.E orc0 (hn l) 100 (Code.r (Code.r (Code.r (Code.r (Code.r (Code.r (Code.r (Code.r c7)))))))) ⟨mkF 228 [(3, .int .i64 q)], [], []⟩).cut [2] false =
    (.br (decide (200000 < q))
    (.leaf (.ret, ⟨mkF 228 [(2, (.int .i64 3))], []⟩))
    (.leaf (.ret, ⟨mkF 228 [(2, (.int .i64 0))], []⟩))) := by kernel_rfl

theorem c8_eq : c8 = (.seq (Code.l c8) (.seq (Code.l (Code.r c8)) (.seq (Code.l (Code.r (Code.r c8))) (.seq (Code.l (Code.r (Code.r (Code.r c8)))) (.seq (.seq (Code.l (Code.l (Code.r (Code.r (Code.r (Code.r c8)))))) (.block 0 (.loop (Code.i (Code.i (Code.r (Code.l (Code.r (Code.r (Code.r (Code.r c8))))))))))) (.seq (.seq (Code.l (Code.l (Code.r (Code.r (Code.r (Code.r (Code.r c8))))))) (.block 2 (.loop (Code.i (Code.i (Code.r (Code.l (Code.r (Code.r (Code.r (Code.r (Code.r c8)))))))))))) (.seq (.seq (Code.l (Code.l (Code.r (Code.r (Code.r (Code.r (Code.r (Code.r c8)))))))) (.block 4 (.loop (Code.i (Code.i (Code.r (Code.l (Code.r (Code.r (Code.r (Code.r (Code.r (Code.r c8))))))))))))) (.seq (.seq (Code.l (Code.l (Code.r (Code.r (Code.r (Code.r (Code.r (Code.r (Code.r c8))))))))) (.block 6 (.loop (Code.i (Code.i (Code.r (Code.l (Code.r (Code.r (Code.r (Code.r (Code.r (Code.r (Code.r c8)))))))))))))) (Code.r (Code.r (Code.r (Code.r (Code.r (Code.r (Code.r (Code.r c8)))))))))))))))) := by kernel_rfl
theorem e8 (l : Lay) (q n k : Int) : ([.agg l.pv] ++ List.replicate (Try.f8.ntmps - List.length (α := PV) [.agg l.pv]) .undef) = mkF 251 [(0, .agg l.pv)] := by kernel_rfl

theorem t8_0 (l : Lay) (q n k : Int) : (codeS Try.prog cx.E orc0 (hn l) 100 (Code.l c8) ⟨mkF 251 [(0, .agg l.pv)], [], []⟩).cut [1] true =
    (.leaf (.normal, ⟨mkF 251 [(1, (.ptr 0 0))], [(Blk.cells (Lay.pv l) Option.none)]⟩)) := by kernel_rfl
theorem t8_1 (l : Lay) (q n k : Int) : (codeS Try.prog cx.E orc0 (hn l) 100 (Code.l (Code.r c8)) ⟨mkF 251 [(1, .rptr l.pv)], [], []⟩).cut [1, 2] false =
    (.br (!inn (Lay.w l) 1 512)
    (.leaf (.ret, ⟨mkF 251 [(1, (.rptr (Lay.pv l))), (2, (.int .i64 2))], []⟩))
    (.br (!inn (Lay.h l) 1 512)
    (.leaf (.ret, ⟨mkF 251 [(1, (.rptr (Lay.pv l))), (2, (.int .i64 2))], []⟩))
    (.br (!inn (Lay.layers l) 1 6)
    (.leaf (.ret, ⟨mkF 251 [(1, (.rptr (Lay.pv l))), (2, (.int .i64 2))], []⟩))
    (.br (!inn (Lay.nets l) 0 700)
    (.leaf (.ret, ⟨mkF 251 [(1, (.rptr (Lay.pv l))), (2, (.int .i64 2))], []⟩))
    (.leaf (.normal, ⟨mkF 251 [(1, (.rptr (Lay.pv l)))], []⟩)))))) := by kernel_rfl
theorem t8_2 (l : Lay) (q n k : Int) : (codeS Try.prog cx.E orc0 (hn l) 100 (Code.l (Code.r (Code.r c8))) ⟨mkF 251 [(1, .rptr l.pv)], [], []⟩).cut [1, 2] false =
    (.br (decide (6000 < (↑(List.length (List.map Wi.pv (Lay.ws l))) : Int)))
    (.leaf (.ret, ⟨mkF 251 [(1, (.rptr (Lay.pv l))), (2, (.int .i64 3))], []⟩))
    (.br (decide (6000 < (↑(List.length (List.map Vi.pv (Lay.vs l))) : Int)))
    (.leaf (.ret, ⟨mkF 251 [(1, (.rptr (Lay.pv l))), (2, (.int .i64 3))], []⟩))
    (.br (decide (4000 < (↑(List.length (List.map Pi.pv (Lay.ps l))) : Int)))
    (.leaf (.ret, ⟨mkF 251 [(1, (.rptr (Lay.pv l))), (2, (.int .i64 3))], []⟩))
    (.br (decide (64 < (↑(List.length (List.map Wa.pv (Lay.xs l))) : Int)))
    (.leaf (.ret, ⟨mkF 251 [(1, (.rptr (Lay.pv l))), (2, (.int .i64 3))], []⟩))
    (.leaf (.normal, ⟨mkF 251 [(1, (.rptr (Lay.pv l)))], []⟩)))))) := by kernel_rfl
theorem t8_3 (l : Lay) (q n k : Int) : (codeS Try.prog cx.E orc0 (hn l) 100 (Code.l (Code.r (Code.r (Code.r c8)))) ⟨mkF 251 [(1, .rptr l.pv)], [], []⟩).cut [1, 3] false =
    (.leaf (.normal, ⟨mkF 251 [(1, (.rptr (Lay.pv l))), (3, (.int .i64 0))], []⟩)) := by kernel_rfl
theorem t8_4 (l : Lay) (q n k : Int) : (codeS Try.prog cx.E orc0 (hn l) 100 (Code.l (Code.l (Code.r (Code.r (Code.r (Code.r c8)))))) ⟨mkF 251 [(1, .rptr l.pv), (3, .int .i64 q)], [], []⟩).cut [1, 3, 57, 58, 59] false =
    (.leaf (.normal, ⟨mkF 251 [(1, (.rptr (Lay.pv l))), (3, (.int .i64 q)), (57, (.lst (List.map Wi.pv (Lay.ws l)) Bool.false)), (58, (.int .i64 ((↑(List.length (List.map Wi.pv (Lay.ws l))) : Int)))), (59, (.int .i64 0))], []⟩)) := by kernel_rfl
theorem t8_5 (l : Lay) (q n k : Int) : (codeS Try.prog cx.E orc0 (hn l) 100 (Code.i (Code.i (Code.r (Code.l (Code.r (Code.r (Code.r (Code.r c8)))))))) ⟨mkF 251 [(1, .rptr l.pv), (3, .int .i64 q), (57, .lst (l.ws.map Wi.pv) false), (58, .int .i64 n), (59, .int .i64 k)], [], []⟩).cut [1, 2, 3, 57, 58, 59] false =
    (.br (decide (k < n))
    (.need (((Kd.any : Kd) = Kd.any) ∧ ((([] : List Blk) = []) ∧ ((dindexAddr (Proofs.Try.prog) (22) ((.lst (List.map Wi.pv (Lay.ws l)) Bool.false)) ((.int .i64 k)) : Option PV) = (Option.some (PV.rptr (Wi.pv (Lay.wAt l k)))))))
    (.br (!inn (Wi.net (Lay.wAt l k)) 0 (IntKind.wrap IntKind.i64 (Lay.nets l - 1)))
    (.leaf (.ret, ⟨mkF 251 [(1, (.rptr (Lay.pv l))), (2, (.int .i64 7)), (3, (.int .i64 q)), (57, (.lst (List.map Wi.pv (Lay.ws l)) Bool.false)), (58, (.int .i64 n)), (59, (.int .i64 k))], [Blk.dead]⟩))
    (.br (!inn (Wi.layer (Lay.wAt l k)) 0 (IntKind.wrap IntKind.i64 (Lay.layers l - 1)))
    (.leaf (.ret, ⟨mkF 251 [(1, (.rptr (Lay.pv l))), (2, (.int .i64 2)), (3, (.int .i64 q)), (57, (.lst (List.map Wi.pv (Lay.ws l)) Bool.false)), (58, (.int .i64 n)), (59, (.int .i64 k))], [Blk.dead]⟩))
    (.br (!(decide (0 ≤ Wi.x0 (Lay.wAt l k)) && decide (Wi.x0 (Lay.wAt l k) ≤ Wi.x1 (Lay.wAt l k)) && decide (Wi.x1 (Lay.wAt l k) < Lay.w l) && decide (0 ≤ Wi.y0 (Lay.wAt l k)) && decide (Wi.y0 (Lay.wAt l k) ≤ Wi.y1 (Lay.wAt l k)) && decide (Wi.y1 (Lay.wAt l k) < Lay.h l)))
    (.leaf (.ret, ⟨mkF 251 [(1, (.rptr (Lay.pv l))), (2, (.int .i64 2)), (3, (.int .i64 q)), (57, (.lst (List.map Wi.pv (Lay.ws l)) Bool.false)), (58, (.int .i64 n)), (59, (.int .i64 k))], [Blk.dead]⟩))
    (.br (Int.tmod (Wi.layer (Lay.wAt l k)) 2 == 0)
    (.br (decide (Wi.y0 (Lay.wAt l k) < Wi.y1 (Lay.wAt l k)))
    (.leaf (.ret, ⟨mkF 251 [(1, (.rptr (Lay.pv l))), (2, (.int .i64 4)), (3, (.int .i64 q)), (57, (.lst (List.map Wi.pv (Lay.ws l)) Bool.false)), (58, (.int .i64 n)), (59, (.int .i64 k))], [Blk.dead]⟩))
    (.br (Int.tmod (Wi.layer (Lay.wAt l k)) 2 == 1)
    (.br (decide (Wi.x0 (Lay.wAt l k) < Wi.x1 (Lay.wAt l k)))
    (.leaf (.ret, ⟨mkF 251 [(1, (.rptr (Lay.pv l))), (2, (.int .i64 4)), (3, (.int .i64 q)), (57, (.lst (List.map Wi.pv (Lay.ws l)) Bool.false)), (58, (.int .i64 n)), (59, (.int .i64 k))], [Blk.dead]⟩))
    (.leaf (.normal, ⟨mkF 251 [(1, (.rptr (Lay.pv l))), (3, (.int .i64 (IntKind.wrap IntKind.i64 (q + IntKind.wrap IntKind.i64 (IntKind.wrap IntKind.i64 (IntKind.wrap IntKind.i64 (IntKind.wrap IntKind.i64 (1 + Wi.x1 (Lay.wAt l k)) - Wi.x0 (Lay.wAt l k)) + Wi.y1 (Lay.wAt l k)) - Wi.y0 (Lay.wAt l k)))))), (57, (.lst (List.map Wi.pv (Lay.ws l)) Bool.false)), (58, (.int .i64 n)), (59, (.int .i64 (IntKind.wrap IntKind.i64 (k + 1))))], [Blk.dead]⟩)))
    (.leaf (.normal, ⟨mkF 251 [(1, (.rptr (Lay.pv l))), (3, (.int .i64 (IntKind.wrap IntKind.i64 (q + IntKind.wrap IntKind.i64 (IntKind.wrap IntKind.i64 (IntKind.wrap IntKind.i64 (IntKind.wrap IntKind.i64 (1 + Wi.x1 (Lay.wAt l k)) - Wi.x0 (Lay.wAt l k)) + Wi.y1 (Lay.wAt l k)) - Wi.y0 (Lay.wAt l k)))))), (57, (.lst (List.map Wi.pv (Lay.ws l)) Bool.false)), (58, (.int .i64 n)), (59, (.int .i64 (IntKind.wrap IntKind.i64 (k + 1))))], [Blk.dead]⟩))))
    (.br (Int.tmod (Wi.layer (Lay.wAt l k)) 2 == 1)
    (.br (decide (Wi.x0 (Lay.wAt l k) < Wi.x1 (Lay.wAt l k)))
    (.leaf (.ret, ⟨mkF 251 [(1, (.rptr (Lay.pv l))), (2, (.int .i64 4)), (3, (.int .i64 q)), (57, (.lst (List.map Wi.pv (Lay.ws l)) Bool.false)), (58, (.int .i64 n)), (59, (.int .i64 k))], [Blk.dead]⟩))
    (.leaf (.normal, ⟨mkF 251 [(1, (.rptr (Lay.pv l))), (3, (.int .i64 (IntKind.wrap IntKind.i64 (q + IntKind.wrap IntKind.i64 (IntKind.wrap IntKind.i64 (IntKind.wrap IntKind.i64 (IntKind.wrap IntKind.i64 (1 + Wi.x1 (Lay.wAt l k)) - Wi.x0 (Lay.wAt l k)) + Wi.y1 (Lay.wAt l k)) - Wi.y0 (Lay.wAt l k)))))), (57, (.lst (List.map Wi.pv (Lay.ws l)) Bool.false)), (58, (.int .i64 n)), (59, (.int .i64 (IntKind.wrap IntKind.i64 (k + 1))))], [Blk.dead]⟩)))
    (.leaf (.normal, ⟨mkF 251 [(1, (.rptr (Lay.pv l))), (3, (.int .i64 (IntKind.wrap IntKind.i64 (q + IntKind.wrap IntKind.i64 (IntKind.wrap IntKind.i64 (IntKind.wrap IntKind.i64 (IntKind.wrap IntKind.i64 (1 + Wi.x1 (Lay.wAt l k)) - Wi.x0 (Lay.wAt l k)) + Wi.y1 (Lay.wAt l k)) - Wi.y0 (Lay.wAt l k)))))), (57, (.lst (List.map Wi.pv (Lay.ws l)) Bool.false)), (58, (.int .i64 n)), (59, (.int .i64 (IntKind.wrap IntKind.i64 (k + 1))))], [Blk.dead]⟩))))))))
    (.leaf ((.exit 0), ⟨mkF 251 [(1, (.rptr (Lay.pv l))), (3, (.int .i64 q)), (57, (.lst (List.map Wi.pv (Lay.ws l)) Bool.false)), (58, (.int .i64 n)), (59, (.int .i64 k))], []⟩))) := by kernel_rfl
theorem t8_6 (l : Lay) (q n k : Int) : (codeS Try.prog cx.E orc0 (hn l) 100 (Code.l (Code.l (Code.r (Code.r (Code.r (Code.r (Code.r c8))))))) ⟨mkF 251 [(1, .rptr l.pv), (3, .int .i64 q)], [], []⟩).cut [1, 3, 133, 134, 135] false =
    (.leaf (.normal, ⟨mkF 251 [(1, (.rptr (Lay.pv l))), (3, (.int .i64 q)), (133, (.lst (List.map Vi.pv (Lay.vs l)) Bool.false)), (134, (.int .i64 ((↑(List.length (List.map Vi.pv (Lay.vs l))) : Int)))), (135, (.int .i64 0))], []⟩)) := by kernel_rfl
theorem t8_7 (l : Lay) (q n k : Int) : (codeS Try.prog cx.E orc0 (hn l) 100 (Code.i (Code.i (Code.r (Code.l (Code.r (Code.r (Code.r (Code.r (Code.r c8))))))))) ⟨mkF 251 [(1, .rptr l.pv), (3, .int .i64 q), (133, .lst (l.vs.map Vi.pv) false), (134, .int .i64 n), (135, .int .i64 k)], [], []⟩).cut [1, 2, 3, 133, 134, 135] false =
    (.br (decide (k < n))
    (.need (((Kd.any : Kd) = Kd.any) ∧ ((([] : List Blk) = []) ∧ ((dindexAddr (Proofs.Try.prog) (23) ((.lst (List.map Vi.pv (Lay.vs l)) Bool.false)) ((.int .i64 k)) : Option PV) = (Option.some (PV.rptr (Vi.pv (Lay.vAt l k)))))))
    (.br (!inn (Vi.net (Lay.vAt l k)) 0 (IntKind.wrap IntKind.i64 (Lay.nets l - 1)))
    (.leaf (.ret, ⟨mkF 251 [(1, (.rptr (Lay.pv l))), (2, (.int .i64 7)), (3, (.int .i64 q)), (133, (.lst (List.map Vi.pv (Lay.vs l)) Bool.false)), (134, (.int .i64 n)), (135, (.int .i64 k))], [Blk.dead]⟩))
    (.br (!inn (Vi.layer (Lay.vAt l k)) 0 (IntKind.wrap IntKind.i64 (Lay.layers l - 2)))
    (.leaf (.ret, ⟨mkF 251 [(1, (.rptr (Lay.pv l))), (2, (.int .i64 2)), (3, (.int .i64 q)), (133, (.lst (List.map Vi.pv (Lay.vs l)) Bool.false)), (134, (.int .i64 n)), (135, (.int .i64 k))], [Blk.dead]⟩))
    (.br (!inn (Vi.x (Lay.vAt l k)) 0 (IntKind.wrap IntKind.i64 (Lay.w l - 1)))
    (.leaf (.ret, ⟨mkF 251 [(1, (.rptr (Lay.pv l))), (2, (.int .i64 2)), (3, (.int .i64 q)), (133, (.lst (List.map Vi.pv (Lay.vs l)) Bool.false)), (134, (.int .i64 n)), (135, (.int .i64 k))], [Blk.dead]⟩))
    (.br (!inn (Vi.y (Lay.vAt l k)) 0 (IntKind.wrap IntKind.i64 (Lay.h l - 1)))
    (.leaf (.ret, ⟨mkF 251 [(1, (.rptr (Lay.pv l))), (2, (.int .i64 2)), (3, (.int .i64 q)), (133, (.lst (List.map Vi.pv (Lay.vs l)) Bool.false)), (134, (.int .i64 n)), (135, (.int .i64 k))], [Blk.dead]⟩))
    (.leaf (.normal, ⟨mkF 251 [(1, (.rptr (Lay.pv l))), (3, (.int .i64 q)), (133, (.lst (List.map Vi.pv (Lay.vs l)) Bool.false)), (134, (.int .i64 n)), (135, (.int .i64 (IntKind.wrap IntKind.i64 (k + 1))))], [Blk.dead]⟩)))))))
    (.leaf ((.exit 2), ⟨mkF 251 [(1, (.rptr (Lay.pv l))), (3, (.int .i64 q)), (133, (.lst (List.map Vi.pv (Lay.vs l)) Bool.false)), (134, (.int .i64 n)), (135, (.int .i64 k))], []⟩))) := by kernel_rfl
theorem t8_8 (l : Lay) (q n k : Int) : (codeS Try.prog cx.E orc0 (hn l) 100 (Code.l (Code.l (Code.r (Code.r (Code.r (Code.r (Code.r (Code.r c8)))))))) ⟨mkF 251 [(1, .rptr l.pv), (3, .int .i64 q)], [], []⟩).cut [1, 3, 173, 174, 175] false =
    (.leaf (.normal, ⟨mkF 251 [(1, (.rptr (Lay.pv l))), (3, (.int .i64 q)), (173, (.lst (List.map Pi.pv (Lay.ps l)) Bool.false)), (174, (.int .i64 ((↑(List.length (List.map Pi.pv (Lay.ps l))) : Int)))), (175, (.int .i64 0))], []⟩)) := by kernel_rfl
theorem t8_9 (l : Lay) (q n k : Int) : (codeS Try.prog cx.E orc0 (hn l) 100 (Code.i (Code.i (Code.r (Code.l (Code.r (Code.r (Code.r (Code.r (Code.r (Code.r c8)))))))))) ⟨mkF 251 [(1, .rptr l.pv), (3, .int .i64 q), (173, .lst (l.ps.map Pi.pv) false), (174, .int .i64 n), (175, .int .i64 k)], [], []⟩).cut [1, 2, 3, 173, 174, 175] false =
    (.br (decide (k < n))
    (.need (((Kd.any : Kd) = Kd.any) ∧ ((([] : List Blk) = []) ∧ ((dindexAddr (Proofs.Try.prog) (24) ((.lst (List.map Pi.pv (Lay.ps l)) Bool.false)) ((.int .i64 k)) : Option PV) = (Option.some (PV.rptr (Pi.pv (Lay.pAt l k)))))))
    (.br (!inn (Pi.net (Lay.pAt l k)) 0 (IntKind.wrap IntKind.i64 (Lay.nets l - 1)))
    (.leaf (.ret, ⟨mkF 251 [(1, (.rptr (Lay.pv l))), (2, (.int .i64 7)), (3, (.int .i64 q)), (173, (.lst (List.map Pi.pv (Lay.ps l)) Bool.false)), (174, (.int .i64 n)), (175, (.int .i64 k))], [Blk.dead]⟩))
    (.br (!inn (Pi.x (Lay.pAt l k)) 0 (IntKind.wrap IntKind.i64 (Lay.w l - 1)))
    (.leaf (.ret, ⟨mkF 251 [(1, (.rptr (Lay.pv l))), (2, (.int .i64 2)), (3, (.int .i64 q)), (173, (.lst (List.map Pi.pv (Lay.ps l)) Bool.false)), (174, (.int .i64 n)), (175, (.int .i64 k))], [Blk.dead]⟩))
    (.br (!inn (Pi.y (Lay.pAt l k)) 0 (IntKind.wrap IntKind.i64 (Lay.h l - 1)))
    (.leaf (.ret, ⟨mkF 251 [(1, (.rptr (Lay.pv l))), (2, (.int .i64 2)), (3, (.int .i64 q)), (173, (.lst (List.map Pi.pv (Lay.ps l)) Bool.false)), (174, (.int .i64 n)), (175, (.int .i64 k))], [Blk.dead]⟩))
    (.br (!inn (Pi.size (Lay.pAt l k)) 0 1000)
    (.leaf (.ret, ⟨mkF 251 [(1, (.rptr (Lay.pv l))), (2, (.int .i64 2)), (3, (.int .i64 q)), (173, (.lst (List.map Pi.pv (Lay.ps l)) Bool.false)), (174, (.int .i64 n)), (175, (.int .i64 k))], [Blk.dead]⟩))
    (.br (Pi.drive (Lay.pAt l k))
    (.br (Pi.size (Lay.pAt l k) != 0)
    (.leaf (.ret, ⟨mkF 251 [(1, (.rptr (Lay.pv l))), (2, (.int .i64 2)), (3, (.int .i64 q)), (173, (.lst (List.map Pi.pv (Lay.ps l)) Bool.false)), (174, (.int .i64 n)), (175, (.int .i64 k))], [Blk.dead]⟩))
    (.leaf (.normal, ⟨mkF 251 [(1, (.rptr (Lay.pv l))), (3, (.int .i64 q)), (173, (.lst (List.map Pi.pv (Lay.ps l)) Bool.false)), (174, (.int .i64 n)), (175, (.int .i64 (IntKind.wrap IntKind.i64 (k + 1))))], [Blk.dead]⟩)))
    (.leaf (.normal, ⟨mkF 251 [(1, (.rptr (Lay.pv l))), (3, (.int .i64 q)), (173, (.lst (List.map Pi.pv (Lay.ps l)) Bool.false)), (174, (.int .i64 n)), (175, (.int .i64 (IntKind.wrap IntKind.i64 (k + 1))))], [Blk.dead]⟩))))))))
    (.leaf ((.exit 4), ⟨mkF 251 [(1, (.rptr (Lay.pv l))), (3, (.int .i64 q)), (173, (.lst (List.map Pi.pv (Lay.ps l)) Bool.false)), (174, (.int .i64 n)), (175, (.int .i64 k))], []⟩))) := by kernel_rfl
theorem t8_10 (l : Lay) (q n k : Int) : (codeS Try.prog cx.E orc0 (hn l) 100 (Code.l (Code.l (Code.r (Code.r (Code.r (Code.r (Code.r (Code.r (Code.r c8))))))))) ⟨mkF 251 [(1, .rptr l.pv), (3, .int .i64 q)], [], []⟩).cut [1, 3, 219, 220, 221] false =
    (.leaf (.normal, ⟨mkF 251 [(1, (.rptr (Lay.pv l))), (3, (.int .i64 q)), (219, (.lst (List.map Wa.pv (Lay.xs l)) Bool.false)), (220, (.int .i64 ((↑(List.length (List.map Wa.pv (Lay.xs l))) : Int)))), (221, (.int .i64 0))], []⟩)) := by kernel_rfl
theorem t8_11 (l : Lay) (q n k : Int) : (codeS Try.prog cx.E orc0 (hn l) 100 (Code.i (Code.i (Code.r (Code.l (Code.r (Code.r (Code.r (Code.r (Code.r (Code.r (Code.r c8))))))))))) ⟨mkF 251 [(1, .rptr l.pv), (3, .int .i64 q), (219, .lst (l.xs.map Wa.pv) false), (220, .int .i64 n), (221, .int .i64 k)], [], []⟩).cut [1, 2, 3, 219, 220, 221] false =
    (.br (decide (k < n))
    (.need (((Kd.any : Kd) = Kd.any) ∧ ((([] : List Blk) = []) ∧ ((dindexAddr (Proofs.Try.prog) (25) ((.lst (List.map Wa.pv (Lay.xs l)) Bool.false)) ((.int .i64 k)) : Option PV) = (Option.some (PV.rptr (Wa.pv (Lay.xAt l k)))))))
    (.br (!inn (Wa.layer (Lay.xAt l k)) 0 (IntKind.wrap IntKind.i64 (Lay.layers l - 1)))
    (.leaf (.ret, ⟨mkF 251 [(1, (.rptr (Lay.pv l))), (2, (.int .i64 2)), (3, (.int .i64 q)), (219, (.lst (List.map Wa.pv (Lay.xs l)) Bool.false)), (220, (.int .i64 n)), (221, (.int .i64 k))], [Blk.dead]⟩))
    (.br (!(decide (0 ≤ Wa.x0 (Lay.xAt l k)) && decide (Wa.x0 (Lay.xAt l k) ≤ Wa.x1 (Lay.xAt l k)) && decide (Wa.x1 (Lay.xAt l k) < Lay.w l) && decide (0 ≤ Wa.y0 (Lay.xAt l k)) && decide (Wa.y0 (Lay.xAt l k) ≤ Wa.y1 (Lay.xAt l k)) && decide (Wa.y1 (Lay.xAt l k) < Lay.h l)))
    (.leaf (.ret, ⟨mkF 251 [(1, (.rptr (Lay.pv l))), (2, (.int .i64 2)), (3, (.int .i64 q)), (219, (.lst (List.map Wa.pv (Lay.xs l)) Bool.false)), (220, (.int .i64 n)), (221, (.int .i64 k))], [Blk.dead]⟩))
    (.leaf (.normal, ⟨mkF 251 [(1, (.rptr (Lay.pv l))), (3, (.int .i64 q)), (219, (.lst (List.map Wa.pv (Lay.xs l)) Bool.false)), (220, (.int .i64 n)), (221, (.int .i64 (IntKind.wrap IntKind.i64 (k + 1))))], [Blk.dead]⟩)))))
    (.leaf ((.exit 6), ⟨mkF 251 [(1, (.rptr (Lay.pv l))), (3, (.int .i64 q)), (219, (.lst (List.map Wa.pv (Lay.xs l)) Bool.false)), (220, (.int .i64 n)), (221, (.int .i64 k))], []⟩))) := by kernel_rfl
theorem t8_12 (l : Lay) (q n k : Int) : (codeS Try.prog cx.E orc0 (hn l) 100 (Code.r (Code.r (Code.r (Code.r (Code.r (Code.r (Code.r (Code.r c8)))))))) ⟨mkF 251 [(3, .int .i64 q)], [], []⟩).cut [2] false =
    (.br (decide (200000 < q))
    (.leaf (.ret, ⟨mkF 251 [(2, (.int .i64 3))], []⟩))
    (.leaf (.ret, ⟨mkF 251 [(2, (.int .i64 0))], []⟩))) := by kernel_rfl

end Go.MW.Rc
