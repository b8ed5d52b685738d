/- The machine: move. .. (AeNNM5, AeNNMP) -/
import Derived.Test.YtcmlbbgbfgikaaaDoorT8
set_option linter.unusedSimpArgs false
set_option linter.unusedVariables false
/- The machine: move. -/
namespace Go.Ae
open Go.Proofs

section
variable (fuel steps : Int) (es : List ByteArray) (ds : List Def) (mk mn mv mtk mtv : Int) (mtl : List Ty) (ml : List Expr) (E R : List (List AV)) (cc ci : List Int) (cu : Int)
  (env : List Vl) (wn wf : Int) (wl : Option Expr) (we : List Vl)

theorem move_const (used : Int) (n v tk tv : Int) (tl : List Ty) (l : List Expr) :
    SoundCall Tryd.prog 24 [.lp 0 0]
      [Mc fuel ⟨es, ds, .mk mk mn mv (.mk mtk mtv mtl) ml⟩ steps 1 1 0 0 false (some (.mk 0 n v (.mk tk tv tl) l)) env (.mk wn wf wl we), .arr 1 1 E, lists cc ci cu used 0, .arr 1 7 R]
      (B true) [Mc fuel ⟨es, ds, .mk mk mn mv (.mk mtk mtv mtl) ml⟩ steps 1 1 0 0 false none [] (.mk n 0 none []), .arr 1 1 E, lists cc ci cu used 0, .arr 1 7 R] := by
  have h := yield_ fuel steps es ds mk mn mv mtk mtv mtl ml E R cc ci cu used 0 (some (.mk 0 n v (.mk tk tv tl) l)) env wn wf wl we 0 0 false n 0 none []
  exact Fn.go KT Tryd.func24 [.reg [] [], .reg [] [], .reg [] [], .reg [] [], .reg [] [], .reg [] [(6, .call (B true) [.cells [I fuel, B false, I steps, AV.la 1 1, I 0, I 0, B false, AV.sl 1 (strs es) false, AV.sl 14 (Def.encs ds) false, I mk, I mn, I mv, I mtk, I mtv, AV.sl 3 (Ty.encs mtl) false, AV.sl 7 (Expr.encs ml) false, AV.ifc 46 (AV.lp 2 0), AV.la 3 1, AV.ip [] 0, AV.ip [] 0, I n, I 0, AV.ip [] 0, AV.ip [] 0] [9, 10, 11, 12, 13, 14, 15], .arr 1 1 E, .cells [AV.sl 1 (ints cc) false, AV.sl 1 (ints ci) false, I used, I cu, I 0] [], .arr 1 7 R])]] [] [] (B true) ([.cells [I fuel, B false, I steps, AV.la 1 1, I 0, I 0, B false, AV.sl 1 (strs es) false, AV.sl 14 (Def.encs ds) false, I mk, I mn, I mv, I mtk, I mtv, AV.sl 3 (Ty.encs mtl) false, AV.sl 7 (Expr.encs ml) false, AV.ifc 46 (AV.lp 2 0), AV.la 3 1, AV.ip [] 0, AV.ip [] 0, I n, I 0, AV.ip [] 0, AV.ip [] 0] [9, 10, 11, 12, 13, 14, 15], .arr 1 1 E, .cells [AV.sl 1 (ints cc) false, AV.sl 1 (ints ci) false, I used, I cu, I 0] [], .arr 1 7 R]) (by kernel_rfl) (ob1 (h) ob0)

theorem move_var (used : Int) (n : Nat) (v tk tv : Int) (tl : List Ty) (l : List Expr) (vn vf : Int) (vl : Option Expr) (ve : List Vl) (hv : env[n]? = some (.mk vn vf vl ve)) (hn : n ≤ 9223372036854775807) :
    SoundCall Tryd.prog 24 [.lp 0 0]
      [Mc fuel ⟨es, ds, .mk mk mn mv (.mk mtk mtv mtl) ml⟩ steps 1 1 0 0 false (some (.mk 1 (n : Int) v (.mk tk tv tl) l)) env (.mk wn wf wl we), .arr 1 1 E, lists cc ci cu used 0, .arr 1 7 R]
      (B true) [Mc fuel ⟨es, ds, .mk mk mn mv (.mk mtk mtv mtl) ml⟩ steps 1 1 0 0 false none [] (.mk vn vf vl ve), .arr 1 1 E, lists cc ci cu used 0, .arr 1 7 R] := by
  have h := yield_ fuel steps es ds mk mn mv mtk mtv mtl ml E R cc ci cu used 0 (some (.mk 1 (n : Int) v (.mk tk tv tl) l)) env wn wf wl we 0 0 false vn vf vl ve
  have ha : SoundCall Tryd.prog 41 [.ip (envC env) 0, I (n : Int)] [] (.agg [I vn, I vf, .ip (lamC vl) 0, .ip (envC ve) 0]) [] := at_ env n vn vf vl ve hv hn
  clear hv
  exact Fn.go KT Tryd.func24 [.reg [] [], .reg [] [], .reg [] [], .reg [] [], .reg [] [], .reg [] [], .reg [] [], .reg [] [(9, .call (AV.agg [I vn, I vf, AV.ip (lamC vl) 0, AV.ip (envC ve) 0]) []), (10, .call (B true) [.cells [I fuel, B false, I steps, AV.la 1 1, I 0, I 0, B false, AV.sl 1 (strs es) false, AV.sl 14 (Def.encs ds) false, I mk, I mn, I mv, I mtk, I mtv, AV.sl 3 (Ty.encs mtl) false, AV.sl 7 (Expr.encs ml) false, AV.ifc 46 (AV.lp 2 0), AV.la 3 1, AV.ip [] 0, AV.ip [] 0, I vn, I vf, AV.ip (lamC vl) 0, AV.ip (envC ve) 0] [9, 10, 11, 12, 13, 14, 15], .arr 1 1 E, .cells [AV.sl 1 (ints cc) false, AV.sl 1 (ints ci) false, I used, I cu, I 0] [], .arr 1 7 R])]] [] [] (B true) ([.cells [I fuel, B false, I steps, AV.la 1 1, I 0, I 0, B false, AV.sl 1 (strs es) false, AV.sl 14 (Def.encs ds) false, I mk, I mn, I mv, I mtk, I mtv, AV.sl 3 (Ty.encs mtl) false, AV.sl 7 (Expr.encs ml) false, AV.ifc 46 (AV.lp 2 0), AV.la 3 1, AV.ip [] 0, AV.ip [] 0, I vn, I vf, AV.ip (lamC vl) 0, AV.ip (envC ve) 0] [9, 10, 11, 12, 13, 14, 15], .arr 1 1 E, .cells [AV.sl 1 (ints cc) false, AV.sl 1 (ints ci) false, I used, I cu, I 0] [], .arr 1 7 R]) (by kernel_rfl) (ob1 (ha) (ob1 (h) ob0))

theorem move_fun (used : Int) (n v tk tv : Int) (tl : List Ty) (l : List Expr) (h0 : 0 ≤ n) (h1 : n ≤ 100000) :
    SoundCall Tryd.prog 24 [.lp 0 0]
      [Mc fuel ⟨es, ds, .mk mk mn mv (.mk mtk mtv mtl) ml⟩ steps 1 1 0 0 false (some (.mk 2 n v (.mk tk tv tl) l)) env (.mk wn wf wl we), .arr 1 1 E, lists cc ci cu used 0, .arr 1 7 R]
      (B true) [Mc fuel ⟨es, ds, .mk mk mn mv (.mk mtk mtv mtl) ml⟩ steps 1 1 0 0 false none [] (.mk 0 (n + 1) none []), .arr 1 1 E, lists cc ci cu used 0, .arr 1 7 R] := by
  have h := yield_ fuel steps es ds mk mn mv mtk mtv mtl ml E R cc ci cu used 0 (some (.mk 2 n v (.mk tk tv tl) l)) env wn wf wl we 0 0 false 0 (n + 1) none []
  exact Fn.go KT Tryd.func24 [.reg [] [], .reg [] [], .reg [] [], .reg [] [], .reg [] [], .reg [] [], .reg [] [], .reg [] [], .reg [] [(5, .int (n + 1)), (7, .call (B true) [.cells [I fuel, B false, I steps, AV.la 1 1, I 0, I 0, B false, AV.sl 1 (strs es) false, AV.sl 14 (Def.encs ds) false, I mk, I mn, I mv, I mtk, I mtv, AV.sl 3 (Ty.encs mtl) false, AV.sl 7 (Expr.encs ml) false, AV.ifc 46 (AV.lp 2 0), AV.la 3 1, AV.ip [] 0, AV.ip [] 0, I 0, I (n + 1), AV.ip [] 0, AV.ip [] 0] [9, 10, 11, 12, 13, 14, 15], .arr 1 1 E, .cells [AV.sl 1 (ints cc) false, AV.sl 1 (ints ci) false, I used, I cu, I 0] [], .arr 1 7 R])]] [] [] (B true) ([.cells [I fuel, B false, I steps, AV.la 1 1, I 0, I 0, B false, AV.sl 1 (strs es) false, AV.sl 14 (Def.encs ds) false, I mk, I mn, I mv, I mtk, I mtv, AV.sl 3 (Ty.encs mtl) false, AV.sl 7 (Expr.encs ml) false, AV.ifc 46 (AV.lp 2 0), AV.la 3 1, AV.ip [] 0, AV.ip [] 0, I 0, I (n + 1), AV.ip [] 0, AV.ip [] 0] [9, 10, 11, 12, 13, 14, 15], .arr 1 1 E, .cells [AV.sl 1 (ints cc) false, AV.sl 1 (ints ci) false, I used, I cu, I 0] [], .arr 1 7 R]) (by kernel_rfl) (qw (n + 1) (ob1 (h) ob0))

theorem move_lam (used : Int) (n v tk tv : Int) (tl : List Ty) (l : List Expr) :
    SoundCall Tryd.prog 24 [.lp 0 0]
      [Mc fuel ⟨es, ds, .mk mk mn mv (.mk mtk mtv mtl) ml⟩ steps 1 1 0 0 false (some (.mk 4 n v (.mk tk tv tl) l)) env (.mk wn wf wl we), .arr 1 1 E, lists cc ci cu used 0, .arr 1 7 R]
      (B true) [Mc fuel ⟨es, ds, .mk mk mn mv (.mk mtk mtv mtl) ml⟩ steps 1 1 0 0 false none [] (.mk 0 0 (some (.mk 4 n v (.mk tk tv tl) l)) env), .arr 1 1 E, lists cc ci cu used 0, .arr 1 7 R] := by
  have h := yield_ fuel steps es ds mk mn mv mtk mtv mtl ml E R cc ci cu used 0 (some (.mk 4 n v (.mk tk tv tl) l)) env wn wf wl we 0 0 false 0 0 (some (.mk 4 n v (.mk tk tv tl) l)) env
  exact Fn.go KT Tryd.func24 [.reg [] [], .reg [] [], .reg [] [], .reg [] [], .reg [] [], .reg [] [], .reg [] [], .reg [] [], .reg [] [], .reg [] [(7, .call (B true) [.cells [I fuel, B false, I steps, AV.la 1 1, I 0, I 0, B false, AV.sl 1 (strs es) false, AV.sl 14 (Def.encs ds) false, I mk, I mn, I mv, I mtk, I mtv, AV.sl 3 (Ty.encs mtl) false, AV.sl 7 (Expr.encs ml) false, AV.ifc 46 (AV.lp 2 0), AV.la 3 1, AV.ip [] 0, AV.ip [] 0, I 0, I 0, AV.ip [I 4, I n, I v, I tk, I tv, AV.sl 3 (Ty.encs tl) false, AV.sl 7 (Expr.encs l) false] 0, AV.ip (envC env) 0] [9, 10, 11, 12, 13, 14, 15], .arr 1 1 E, .cells [AV.sl 1 (ints cc) false, AV.sl 1 (ints ci) false, I used, I cu, I 0] [], .arr 1 7 R])]] [] [] (B true) ([.cells [I fuel, B false, I steps, AV.la 1 1, I 0, I 0, B false, AV.sl 1 (strs es) false, AV.sl 14 (Def.encs ds) false, I mk, I mn, I mv, I mtk, I mtv, AV.sl 3 (Ty.encs mtl) false, AV.sl 7 (Expr.encs ml) false, AV.ifc 46 (AV.lp 2 0), AV.la 3 1, AV.ip [] 0, AV.ip [] 0, I 0, I 0, AV.ip [I 4, I n, I v, I tk, I tv, AV.sl 3 (Ty.encs tl) false, AV.sl 7 (Expr.encs l) false] 0, AV.ip (envC env) 0] [9, 10, 11, 12, 13, 14, 15], .arr 1 1 E, .cells [AV.sl 1 (ints cc) false, AV.sl 1 (ints ci) false, I used, I cu, I 0] [], .arr 1 7 R]) (by kernel_rfl) (ob1 (h) ob0)

theorem move_push3 (used : Int) (n v tk tv : Int) (tl : List Ty) (ak an av atk atv : Int) (atl : List Ty) (al xl : List Expr) (hR : R.length ≤ 4294967296) (hl : xl.length ≤ 4294967296) :
    SoundCall Tryd.prog 24 [.lp 0 0]
      [Mc fuel ⟨es, ds, .mk mk mn mv (.mk mtk mtv mtl) ml⟩ steps 1 1 0 0 false (some (.mk 3 n v (.mk tk tv tl) (.mk ak an av (.mk atk atv atl) al :: xl))) env (.mk wn wf wl we), .arr 1 1 E, lists cc ci cu used 0, .arr 1 7 R]
      (B true) [Mc fuel ⟨es, ds, .mk mk mn mv (.mk mtk mtv mtl) ml⟩ steps 1 2 0 0 false (some (.mk ak an av (.mk atk atv atl) al)) env (.mk wn wf wl we), .arr 1 1 E, lists cc ci cu used 0,
        .arr 2 7 (R ++ [(Fr.mk 0 (some (.mk 3 n v (.mk tk tv tl) (.mk ak an av (.mk atk atv atl) al :: xl))) env vZ).enc])] := by
  have h := push_ fuel steps es ds mk mn mv mtk mtv mtl ml E R cc ci cu used 0 (some (.mk 3 n v (.mk tk tv tl) (.mk ak an av (.mk atk atv atl) al :: xl))) env wn wf wl we 0 0 false 0 3 n v tk tv tl ak an av atk atv atl al xl hR hl
  exact Fn.go KT Tryd.func24 [.reg [] [], .reg [] [], .reg [] [], .reg [] [], .reg [] [], .reg [] [], .reg [] [], .reg [] [], .reg [] [], .reg [] [], .reg [] [(2, .call (B true) [.cells [I fuel, B false, I steps, AV.la 1 1, I 0, I 0, B false, AV.sl 1 (strs es) false, AV.sl 14 (Def.encs ds) false, I mk, I mn, I mv, I mtk, I mtv, AV.sl 3 (Ty.encs mtl) false, AV.sl 7 (Expr.encs ml) false, AV.ifc 46 (AV.lp 2 0), AV.la 3 2, AV.ip [I ak, I an, I av, I atk, I atv, AV.sl 3 (Ty.encs atl) false, AV.sl 7 (Expr.encs al) false] 0, AV.ip (envC env) 0, I wn, I wf, AV.ip (lamC wl) 0, AV.ip (envC we) 0] [9, 10, 11, 12, 13, 14, 15], .arr 1 1 E, .cells [AV.sl 1 (ints cc) false, AV.sl 1 (ints ci) false, I used, I cu, I 0] [], .arr 2 7 (R ++ [[I 0, AV.ip [I 3, I n, I v, I tk, I tv, AV.sl 3 (Ty.encs tl) false, AV.sl 7 ([I ak, I an, I av, I atk, I atv, AV.sl 3 (Ty.encs atl) false, AV.sl 7 (Expr.encs al) false] :: Expr.encs xl) false] 0, AV.ip (envC env) 0, I 0, I 0, AV.ip [] 0, AV.ip [] 0]])])]] [] [] (B true) ([.cells [I fuel, B false, I steps, AV.la 1 1, I 0, I 0, B false, AV.sl 1 (strs es) false, AV.sl 14 (Def.encs ds) false, I mk, I mn, I mv, I mtk, I mtv, AV.sl 3 (Ty.encs mtl) false, AV.sl 7 (Expr.encs ml) false, AV.ifc 46 (AV.lp 2 0), AV.la 3 2, AV.ip [I ak, I an, I av, I atk, I atv, AV.sl 3 (Ty.encs atl) false, AV.sl 7 (Expr.encs al) false] 0, AV.ip (envC env) 0, I wn, I wf, AV.ip (lamC wl) 0, AV.ip (envC we) 0] [9, 10, 11, 12, 13, 14, 15], .arr 1 1 E, .cells [AV.sl 1 (ints cc) false, AV.sl 1 (ints ci) false, I used, I cu, I 0] [], .arr 2 7 (R ++ [[I 0, AV.ip [I 3, I n, I v, I tk, I tv, AV.sl 3 (Ty.encs tl) false, AV.sl 7 ([I ak, I an, I av, I atk, I atv, AV.sl 3 (Ty.encs atl) false, AV.sl 7 (Expr.encs al) false] :: Expr.encs xl) false] 0, AV.ip (envC env) 0, I 0, I 0, AV.ip [] 0, AV.ip [] 0]])]) (by kernel_rfl) (ob1 (h) ob0)

theorem move_push5 (used : Int) (n v tk tv : Int) (tl : List Ty) (ak an av atk atv : Int) (atl : List Ty) (al xl : List Expr) (hR : R.length ≤ 4294967296) (hl : xl.length ≤ 4294967296) :
    SoundCall Tryd.prog 24 [.lp 0 0]
      [Mc fuel ⟨es, ds, .mk mk mn mv (.mk mtk mtv mtl) ml⟩ steps 1 1 0 0 false (some (.mk 5 n v (.mk tk tv tl) (.mk ak an av (.mk atk atv atl) al :: xl))) env (.mk wn wf wl we), .arr 1 1 E, lists cc ci cu used 0, .arr 1 7 R]
      (B true) [Mc fuel ⟨es, ds, .mk mk mn mv (.mk mtk mtv mtl) ml⟩ steps 1 2 0 0 false (some (.mk ak an av (.mk atk atv atl) al)) env (.mk wn wf wl we), .arr 1 1 E, lists cc ci cu used 0,
        .arr 2 7 (R ++ [(Fr.mk 2 (some (.mk 5 n v (.mk tk tv tl) (.mk ak an av (.mk atk atv atl) al :: xl))) env vZ).enc])] := by
  have h := push_ fuel steps es ds mk mn mv mtk mtv mtl ml E R cc ci cu used 0 (some (.mk 5 n v (.mk tk tv tl) (.mk ak an av (.mk atk atv atl) al :: xl))) env wn wf wl we 0 0 false 2 5 n v tk tv tl ak an av atk atv atl al xl hR hl
  exact Fn.go KT Tryd.func24 [.reg [] [], .reg [] [], .reg [] [], .reg [] [], .reg [] [], .reg [] [], .reg [] [], .reg [] [], .reg [] [], .reg [] [], .reg [] [], .reg [] [(2, .call (B true) [.cells [I fuel, B false, I steps, AV.la 1 1, I 0, I 0, B false, AV.sl 1 (strs es) false, AV.sl 14 (Def.encs ds) false, I mk, I mn, I mv, I mtk, I mtv, AV.sl 3 (Ty.encs mtl) false, AV.sl 7 (Expr.encs ml) false, AV.ifc 46 (AV.lp 2 0), AV.la 3 2, AV.ip [I ak, I an, I av, I atk, I atv, AV.sl 3 (Ty.encs atl) false, AV.sl 7 (Expr.encs al) false] 0, AV.ip (envC env) 0, I wn, I wf, AV.ip (lamC wl) 0, AV.ip (envC we) 0] [9, 10, 11, 12, 13, 14, 15], .arr 1 1 E, .cells [AV.sl 1 (ints cc) false, AV.sl 1 (ints ci) false, I used, I cu, I 0] [], .arr 2 7 (R ++ [[I 2, AV.ip [I 5, I n, I v, I tk, I tv, AV.sl 3 (Ty.encs tl) false, AV.sl 7 ([I ak, I an, I av, I atk, I atv, AV.sl 3 (Ty.encs atl) false, AV.sl 7 (Expr.encs al) false] :: Expr.encs xl) false] 0, AV.ip (envC env) 0, I 0, I 0, AV.ip [] 0, AV.ip [] 0]])])]] [] [] (B true) ([.cells [I fuel, B false, I steps, AV.la 1 1, I 0, I 0, B false, AV.sl 1 (strs es) false, AV.sl 14 (Def.encs ds) false, I mk, I mn, I mv, I mtk, I mtv, AV.sl 3 (Ty.encs mtl) false, AV.sl 7 (Expr.encs ml) false, AV.ifc 46 (AV.lp 2 0), AV.la 3 2, AV.ip [I ak, I an, I av, I atk, I atv, AV.sl 3 (Ty.encs atl) false, AV.sl 7 (Expr.encs al) false] 0, AV.ip (envC env) 0, I wn, I wf, AV.ip (lamC wl) 0, AV.ip (envC we) 0] [9, 10, 11, 12, 13, 14, 15], .arr 1 1 E, .cells [AV.sl 1 (ints cc) false, AV.sl 1 (ints ci) false, I used, I cu, I 0] [], .arr 2 7 (R ++ [[I 2, AV.ip [I 5, I n, I v, I tk, I tv, AV.sl 3 (Ty.encs tl) false, AV.sl 7 ([I ak, I an, I av, I atk, I atv, AV.sl 3 (Ty.encs atl) false, AV.sl 7 (Expr.encs al) false] :: Expr.encs xl) false] 0, AV.ip (envC env) 0, I 0, I 0, AV.ip [] 0, AV.ip [] 0]])]) (by kernel_rfl) (ob1 (h) ob0)

theorem move_push6 (used : Int) (n v tk tv : Int) (tl : List Ty) (ak an av atk atv : Int) (atl : List Ty) (al xl : List Expr) (hR : R.length ≤ 4294967296) (hl : xl.length ≤ 4294967296) :
    SoundCall Tryd.prog 24 [.lp 0 0]
      [Mc fuel ⟨es, ds, .mk mk mn mv (.mk mtk mtv mtl) ml⟩ steps 1 1 0 0 false (some (.mk 6 n v (.mk tk tv tl) (.mk ak an av (.mk atk atv atl) al :: xl))) env (.mk wn wf wl we), .arr 1 1 E, lists cc ci cu used 0, .arr 1 7 R]
      (B true) [Mc fuel ⟨es, ds, .mk mk mn mv (.mk mtk mtv mtl) ml⟩ steps 1 2 0 0 false (some (.mk ak an av (.mk atk atv atl) al)) env (.mk wn wf wl we), .arr 1 1 E, lists cc ci cu used 0,
        .arr 2 7 (R ++ [(Fr.mk 3 (some (.mk 6 n v (.mk tk tv tl) (.mk ak an av (.mk atk atv atl) al :: xl))) env vZ).enc])] := by
  have h := push_ fuel steps es ds mk mn mv mtk mtv mtl ml E R cc ci cu used 0 (some (.mk 6 n v (.mk tk tv tl) (.mk ak an av (.mk atk atv atl) al :: xl))) env wn wf wl we 0 0 false 3 6 n v tk tv tl ak an av atk atv atl al xl hR hl
  exact Fn.go KT Tryd.func24 [.reg [] [], .reg [] [], .reg [] [], .reg [] [], .reg [] [], .reg [] [], .reg [] [], .reg [] [], .reg [] [], .reg [] [], .reg [] [], .reg [] [], .reg [] [(2, .call (B true) [.cells [I fuel, B false, I steps, AV.la 1 1, I 0, I 0, B false, AV.sl 1 (strs es) false, AV.sl 14 (Def.encs ds) false, I mk, I mn, I mv, I mtk, I mtv, AV.sl 3 (Ty.encs mtl) false, AV.sl 7 (Expr.encs ml) false, AV.ifc 46 (AV.lp 2 0), AV.la 3 2, AV.ip [I ak, I an, I av, I atk, I atv, AV.sl 3 (Ty.encs atl) false, AV.sl 7 (Expr.encs al) false] 0, AV.ip (envC env) 0, I wn, I wf, AV.ip (lamC wl) 0, AV.ip (envC we) 0] [9, 10, 11, 12, 13, 14, 15], .arr 1 1 E, .cells [AV.sl 1 (ints cc) false, AV.sl 1 (ints ci) false, I used, I cu, I 0] [], .arr 2 7 (R ++ [[I 3, AV.ip [I 6, I n, I v, I tk, I tv, AV.sl 3 (Ty.encs tl) false, AV.sl 7 ([I ak, I an, I av, I atk, I atv, AV.sl 3 (Ty.encs atl) false, AV.sl 7 (Expr.encs al) false] :: Expr.encs xl) false] 0, AV.ip (envC env) 0, I 0, I 0, AV.ip [] 0, AV.ip [] 0]])])]] [] [] (B true) ([.cells [I fuel, B false, I steps, AV.la 1 1, I 0, I 0, B false, AV.sl 1 (strs es) false, AV.sl 14 (Def.encs ds) false, I mk, I mn, I mv, I mtk, I mtv, AV.sl 3 (Ty.encs mtl) false, AV.sl 7 (Expr.encs ml) false, AV.ifc 46 (AV.lp 2 0), AV.la 3 2, AV.ip [I ak, I an, I av, I atk, I atv, AV.sl 3 (Ty.encs atl) false, AV.sl 7 (Expr.encs al) false] 0, AV.ip (envC env) 0, I wn, I wf, AV.ip (lamC wl) 0, AV.ip (envC we) 0] [9, 10, 11, 12, 13, 14, 15], .arr 1 1 E, .cells [AV.sl 1 (ints cc) false, AV.sl 1 (ints ci) false, I used, I cu, I 0] [], .arr 2 7 (R ++ [[I 3, AV.ip [I 6, I n, I v, I tk, I tv, AV.sl 3 (Ty.encs tl) false, AV.sl 7 ([I ak, I an, I av, I atk, I atv, AV.sl 3 (Ty.encs atl) false, AV.sl 7 (Expr.encs al) false] :: Expr.encs xl) false] 0, AV.ip (envC env) 0, I 0, I 0, AV.ip [] 0, AV.ip [] 0]])]) (by kernel_rfl) (ob1 (h) ob0)

theorem move_push11 (used : Int) (n v tk tv : Int) (tl : List Ty) (ak an av atk atv : Int) (atl : List Ty) (al xl : List Expr) (hR : R.length ≤ 4294967296) (hl : xl.length ≤ 4294967296) :
    SoundCall Tryd.prog 24 [.lp 0 0]
      [Mc fuel ⟨es, ds, .mk mk mn mv (.mk mtk mtv mtl) ml⟩ steps 1 1 0 0 false (some (.mk 11 n v (.mk tk tv tl) (.mk ak an av (.mk atk atv atl) al :: xl))) env (.mk wn wf wl we), .arr 1 1 E, lists cc ci cu used 0, .arr 1 7 R]
      (B true) [Mc fuel ⟨es, ds, .mk mk mn mv (.mk mtk mtv mtl) ml⟩ steps 1 2 0 0 false (some (.mk ak an av (.mk atk atv atl) al)) env (.mk wn wf wl we), .arr 1 1 E, lists cc ci cu used 0,
        .arr 2 7 (R ++ [(Fr.mk 4 (some (.mk 11 n v (.mk tk tv tl) (.mk ak an av (.mk atk atv atl) al :: xl))) env vZ).enc])] := by
  have h := push_ fuel steps es ds mk mn mv mtk mtv mtl ml E R cc ci cu used 0 (some (.mk 11 n v (.mk tk tv tl) (.mk ak an av (.mk atk atv atl) al :: xl))) env wn wf wl we 0 0 false 4 11 n v tk tv tl ak an av atk atv atl al xl hR hl
  exact Fn.go KT Tryd.func24 [.reg [] [], .reg [] [], .reg [] [], .reg [] [], .reg [] [], .reg [] [], .reg [] [], .reg [] [], .reg [] [], .reg [] [], .reg [] [], .reg [] [], .reg [] [], .reg [] [(2, .call (B true) [.cells [I fuel, B false, I steps, AV.la 1 1, I 0, I 0, B false, AV.sl 1 (strs es) false, AV.sl 14 (Def.encs ds) false, I mk, I mn, I mv, I mtk, I mtv, AV.sl 3 (Ty.encs mtl) false, AV.sl 7 (Expr.encs ml) false, AV.ifc 46 (AV.lp 2 0), AV.la 3 2, AV.ip [I ak, I an, I av, I atk, I atv, AV.sl 3 (Ty.encs atl) false, AV.sl 7 (Expr.encs al) false] 0, AV.ip (envC env) 0, I wn, I wf, AV.ip (lamC wl) 0, AV.ip (envC we) 0] [9, 10, 11, 12, 13, 14, 15], .arr 1 1 E, .cells [AV.sl 1 (ints cc) false, AV.sl 1 (ints ci) false, I used, I cu, I 0] [], .arr 2 7 (R ++ [[I 4, AV.ip [I 11, I n, I v, I tk, I tv, AV.sl 3 (Ty.encs tl) false, AV.sl 7 ([I ak, I an, I av, I atk, I atv, AV.sl 3 (Ty.encs atl) false, AV.sl 7 (Expr.encs al) false] :: Expr.encs xl) false] 0, AV.ip (envC env) 0, I 0, I 0, AV.ip [] 0, AV.ip [] 0]])])]] [] [] (B true) ([.cells [I fuel, B false, I steps, AV.la 1 1, I 0, I 0, B false, AV.sl 1 (strs es) false, AV.sl 14 (Def.encs ds) false, I mk, I mn, I mv, I mtk, I mtv, AV.sl 3 (Ty.encs mtl) false, AV.sl 7 (Expr.encs ml) false, AV.ifc 46 (AV.lp 2 0), AV.la 3 2, AV.ip [I ak, I an, I av, I atk, I atv, AV.sl 3 (Ty.encs atl) false, AV.sl 7 (Expr.encs al) false] 0, AV.ip (envC env) 0, I wn, I wf, AV.ip (lamC wl) 0, AV.ip (envC we) 0] [9, 10, 11, 12, 13, 14, 15], .arr 1 1 E, .cells [AV.sl 1 (ints cc) false, AV.sl 1 (ints ci) false, I used, I cu, I 0] [], .arr 2 7 (R ++ [[I 4, AV.ip [I 11, I n, I v, I tk, I tv, AV.sl 3 (Ty.encs tl) false, AV.sl 7 ([I ak, I an, I av, I atk, I atv, AV.sl 3 (Ty.encs atl) false, AV.sl 7 (Expr.encs al) false] :: Expr.encs xl) false] 0, AV.ip (envC env) 0, I 0, I 0, AV.ip [] 0, AV.ip [] 0]])]) (by kernel_rfl) (ob1 (h) ob0)

theorem move_push12 (used : Int) (n v tk tv : Int) (tl : List Ty) (ak an av atk atv : Int) (atl : List Ty) (al xl : List Expr) (hR : R.length ≤ 4294967296) (hl : xl.length ≤ 4294967296) :
    SoundCall Tryd.prog 24 [.lp 0 0]
      [Mc fuel ⟨es, ds, .mk mk mn mv (.mk mtk mtv mtl) ml⟩ steps 1 1 0 0 false (some (.mk 12 n v (.mk tk tv tl) (.mk ak an av (.mk atk atv atl) al :: xl))) env (.mk wn wf wl we), .arr 1 1 E, lists cc ci cu used 0, .arr 1 7 R]
      (B true) [Mc fuel ⟨es, ds, .mk mk mn mv (.mk mtk mtv mtl) ml⟩ steps 1 2 0 0 false (some (.mk ak an av (.mk atk atv atl) al)) env (.mk wn wf wl we), .arr 1 1 E, lists cc ci cu used 0,
        .arr 2 7 (R ++ [(Fr.mk 5 (some (.mk 12 n v (.mk tk tv tl) (.mk ak an av (.mk atk atv atl) al :: xl))) env vZ).enc])] := by
  have h := push_ fuel steps es ds mk mn mv mtk mtv mtl ml E R cc ci cu used 0 (some (.mk 12 n v (.mk tk tv tl) (.mk ak an av (.mk atk atv atl) al :: xl))) env wn wf wl we 0 0 false 5 12 n v tk tv tl ak an av atk atv atl al xl hR hl
  exact Fn.go KT Tryd.func24 [.reg [] [], .reg [] [], .reg [] [], .reg [] [], .reg [] [], .reg [] [], .reg [] [], .reg [] [], .reg [] [], .reg [] [], .reg [] [], .reg [] [], .reg [] [], .reg [] [], .reg [] [(2, .call (B true) [.cells [I fuel, B false, I steps, AV.la 1 1, I 0, I 0, B false, AV.sl 1 (strs es) false, AV.sl 14 (Def.encs ds) false, I mk, I mn, I mv, I mtk, I mtv, AV.sl 3 (Ty.encs mtl) false, AV.sl 7 (Expr.encs ml) false, AV.ifc 46 (AV.lp 2 0), AV.la 3 2, AV.ip [I ak, I an, I av, I atk, I atv, AV.sl 3 (Ty.encs atl) false, AV.sl 7 (Expr.encs al) false] 0, AV.ip (envC env) 0, I wn, I wf, AV.ip (lamC wl) 0, AV.ip (envC we) 0] [9, 10, 11, 12, 13, 14, 15], .arr 1 1 E, .cells [AV.sl 1 (ints cc) false, AV.sl 1 (ints ci) false, I used, I cu, I 0] [], .arr 2 7 (R ++ [[I 5, AV.ip [I 12, I n, I v, I tk, I tv, AV.sl 3 (Ty.encs tl) false, AV.sl 7 ([I ak, I an, I av, I atk, I atv, AV.sl 3 (Ty.encs atl) false, AV.sl 7 (Expr.encs al) false] :: Expr.encs xl) false] 0, AV.ip (envC env) 0, I 0, I 0, AV.ip [] 0, AV.ip [] 0]])])]] [] [] (B true) ([.cells [I fuel, B false, I steps, AV.la 1 1, I 0, I 0, B false, AV.sl 1 (strs es) false, AV.sl 14 (Def.encs ds) false, I mk, I mn, I mv, I mtk, I mtv, AV.sl 3 (Ty.encs mtl) false, AV.sl 7 (Expr.encs ml) false, AV.ifc 46 (AV.lp 2 0), AV.la 3 2, AV.ip [I ak, I an, I av, I atk, I atv, AV.sl 3 (Ty.encs atl) false, AV.sl 7 (Expr.encs al) false] 0, AV.ip (envC env) 0, I wn, I wf, AV.ip (lamC wl) 0, AV.ip (envC we) 0] [9, 10, 11, 12, 13, 14, 15], .arr 1 1 E, .cells [AV.sl 1 (ints cc) false, AV.sl 1 (ints ci) false, I used, I cu, I 0] [], .arr 2 7 (R ++ [[I 5, AV.ip [I 12, I n, I v, I tk, I tv, AV.sl 3 (Ty.encs tl) false, AV.sl 7 ([I ak, I an, I av, I atk, I atv, AV.sl 3 (Ty.encs atl) false, AV.sl 7 (Expr.encs al) false] :: Expr.encs xl) false] 0, AV.ip (envC env) 0, I 0, I 0, AV.ip [] 0, AV.ip [] 0]])]) (by kernel_rfl) (ob1 (h) ob0)

theorem move_more (used : Int) (k n v tk tv : Int) (tl : List Ty) (l : List Expr) (hk : k = 7 ∨ k = 8 ∨ k = 10) (hf : fuel ≤ steps) :
    SoundCall Tryd.prog 24 [.lp 0 0]
      [Mc fuel ⟨es, ds, .mk mk mn mv (.mk mtk mtv mtl) ml⟩ steps 1 1 0 0 false (some (.mk k n v (.mk tk tv tl) l)) env (.mk wn wf wl we), .arr 1 1 E, lists cc ci cu used 0, .arr 1 7 R]
      (B false) [Mc fuel ⟨es, ds, .mk mk mn mv (.mk mtk mtv mtl) ml⟩ steps 1 1 1 0 false (some (.mk k n v (.mk tk tv tl) l)) env (.mk wn wf wl we), .arr 1 1 E, lists cc ci cu used 0, .arr 1 7 R] := by
  have h := stop_ fuel steps es ds mk mn mv mtk mtv mtl ml E R cc ci cu used 0 (some (.mk k n v (.mk tk tv tl) l)) env wn wf wl we 0 0 false 1
  rcases hk with rfl | rfl | rfl
  · exact Fn.go KT Tryd.func24 [.reg [] [], .reg [] [], .reg [] [], .reg [] [], .reg [] [], .reg [] [], .reg [] [], .reg [] [], .reg [] [], .reg [] [], .reg [] [], .reg [] [], .reg [] [], .reg [] [], .reg [] [(8, .bit true)], .reg [] [(1, .call (B false) [.cells [I fuel, B false, I steps, AV.la 1 1, I 1, I 0, B false, AV.sl 1 (strs es) false, AV.sl 14 (Def.encs ds) false, I mk, I mn, I mv, I mtk, I mtv, AV.sl 3 (Ty.encs mtl) false, AV.sl 7 (Expr.encs ml) false, AV.ifc 46 (AV.lp 2 0), AV.la 3 1, AV.ip [I 7, I n, I v, I tk, I tv, AV.sl 3 (Ty.encs tl) false, AV.sl 7 (Expr.encs l) false] 0, AV.ip (envC env) 0, I wn, I wf, AV.ip (lamC wl) 0, AV.ip (envC we) 0] [9, 10, 11, 12, 13, 14, 15], .arr 1 1 E, .cells [AV.sl 1 (ints cc) false, AV.sl 1 (ints ci) false, I used, I cu, I 0] [], .arr 1 7 R])]] [] [] (B false) ([.cells [I fuel, B false, I steps, AV.la 1 1, I 1, I 0, B false, AV.sl 1 (strs es) false, AV.sl 14 (Def.encs ds) false, I mk, I mn, I mv, I mtk, I mtv, AV.sl 3 (Ty.encs mtl) false, AV.sl 7 (Expr.encs ml) false, AV.ifc 46 (AV.lp 2 0), AV.la 3 1, AV.ip [I 7, I n, I v, I tk, I tv, AV.sl 3 (Ty.encs tl) false, AV.sl 7 (Expr.encs l) false] 0, AV.ip (envC env) 0, I wn, I wf, AV.ip (lamC wl) 0, AV.ip (envC we) 0] [9, 10, 11, 12, 13, 14, 15], .arr 1 1 E, .cells [AV.sl 1 (ints cc) false, AV.sl 1 (ints ci) false, I used, I cu, I 0] [], .arr 1 7 R]) (by kernel_rfl) (q (decide (fuel ≤ steps) = true) (ob1 (h) ob0))
  · exact Fn.go KT Tryd.func24 [.reg [] [], .reg [] [], .reg [] [], .reg [] [], .reg [] [], .reg [] [], .reg [] [], .reg [] [], .reg [] [], .reg [] [], .reg [] [], .reg [] [], .reg [] [], .reg [] [], .reg [] [(8, .bit true)], .reg [] [(1, .call (B false) [.cells [I fuel, B false, I steps, AV.la 1 1, I 1, I 0, B false, AV.sl 1 (strs es) false, AV.sl 14 (Def.encs ds) false, I mk, I mn, I mv, I mtk, I mtv, AV.sl 3 (Ty.encs mtl) false, AV.sl 7 (Expr.encs ml) false, AV.ifc 46 (AV.lp 2 0), AV.la 3 1, AV.ip [I 8, I n, I v, I tk, I tv, AV.sl 3 (Ty.encs tl) false, AV.sl 7 (Expr.encs l) false] 0, AV.ip (envC env) 0, I wn, I wf, AV.ip (lamC wl) 0, AV.ip (envC we) 0] [9, 10, 11, 12, 13, 14, 15], .arr 1 1 E, .cells [AV.sl 1 (ints cc) false, AV.sl 1 (ints ci) false, I used, I cu, I 0] [], .arr 1 7 R])]] [] [] (B false) ([.cells [I fuel, B false, I steps, AV.la 1 1, I 1, I 0, B false, AV.sl 1 (strs es) false, AV.sl 14 (Def.encs ds) false, I mk, I mn, I mv, I mtk, I mtv, AV.sl 3 (Ty.encs mtl) false, AV.sl 7 (Expr.encs ml) false, AV.ifc 46 (AV.lp 2 0), AV.la 3 1, AV.ip [I 8, I n, I v, I tk, I tv, AV.sl 3 (Ty.encs tl) false, AV.sl 7 (Expr.encs l) false] 0, AV.ip (envC env) 0, I wn, I wf, AV.ip (lamC wl) 0, AV.ip (envC we) 0] [9, 10, 11, 12, 13, 14, 15], .arr 1 1 E, .cells [AV.sl 1 (ints cc) false, AV.sl 1 (ints ci) false, I used, I cu, I 0] [], .arr 1 7 R]) (by kernel_rfl) (q (decide (fuel ≤ steps) = true) (ob1 (h) ob0))
  · exact Fn.go KT Tryd.func24 [.reg [] [], .reg [] [], .reg [] [], .reg [] [], .reg [] [], .reg [] [], .reg [] [], .reg [] [], .reg [] [], .reg [] [], .reg [] [], .reg [] [], .reg [] [], .reg [] [], .reg [] [(8, .bit true)], .reg [] [(1, .call (B false) [.cells [I fuel, B false, I steps, AV.la 1 1, I 1, I 0, B false, AV.sl 1 (strs es) false, AV.sl 14 (Def.encs ds) false, I mk, I mn, I mv, I mtk, I mtv, AV.sl 3 (Ty.encs mtl) false, AV.sl 7 (Expr.encs ml) false, AV.ifc 46 (AV.lp 2 0), AV.la 3 1, AV.ip [I 10, I n, I v, I tk, I tv, AV.sl 3 (Ty.encs tl) false, AV.sl 7 (Expr.encs l) false] 0, AV.ip (envC env) 0, I wn, I wf, AV.ip (lamC wl) 0, AV.ip (envC we) 0] [9, 10, 11, 12, 13, 14, 15], .arr 1 1 E, .cells [AV.sl 1 (ints cc) false, AV.sl 1 (ints ci) false, I used, I cu, I 0] [], .arr 1 7 R])]] [] [] (B false) ([.cells [I fuel, B false, I steps, AV.la 1 1, I 1, I 0, B false, AV.sl 1 (strs es) false, AV.sl 14 (Def.encs ds) false, I mk, I mn, I mv, I mtk, I mtv, AV.sl 3 (Ty.encs mtl) false, AV.sl 7 (Expr.encs ml) false, AV.ifc 46 (AV.lp 2 0), AV.la 3 1, AV.ip [I 10, I n, I v, I tk, I tv, AV.sl 3 (Ty.encs tl) false, AV.sl 7 (Expr.encs l) false] 0, AV.ip (envC env) 0, I wn, I wf, AV.ip (lamC wl) 0, AV.ip (envC we) 0] [9, 10, 11, 12, 13, 14, 15], .arr 1 1 E, .cells [AV.sl 1 (ints cc) false, AV.sl 1 (ints ci) false, I used, I cu, I 0] [], .arr 1 7 R]) (by kernel_rfl) (q (decide (fuel ≤ steps) = true) (ob1 (h) ob0))

theorem move_want (used : Nat) (n v tk tv : Int) (tl : List Ty) (l : List Expr) (hf : steps < fuel) (hu : used = cc.length) (hl : cc.length ≤ 4294967296) :
    SoundCall Tryd.prog 24 [.lp 0 0]
      [Mc fuel ⟨es, ds, .mk mk mn mv (.mk mtk mtv mtl) ml⟩ steps 1 1 0 0 false (some (.mk 8 n v (.mk tk tv tl) l)) env (.mk wn wf wl we), .arr 1 1 E, lists cc ci cu used 0, .arr 1 7 R]
      (B false) [Mc fuel ⟨es, ds, .mk mk mn mv (.mk mtk mtv mtl) ml⟩ steps 1 1 2 0 false (some (.mk 8 n v (.mk tk tv tl) l)) env (.mk wn wf wl we), .arr 1 1 E, lists cc ci cu used v, .arr 1 7 R] := by
  have hp := pick_want cc ci cu used 0 v hu hl
  have h := answered1 fuel steps es ds mk mn mv mtk mtv mtl ml E R cc ci cu used v (some (.mk 8 n v (.mk tk tv tl) l)) env wn wf wl we 0 0 false 0
  exact Fn.go KT Tryd.func24 [.reg [] [], .reg [] [], .reg [] [], .reg [] [], .reg [] [], .reg [] [], .reg [] [], .reg [] [], .reg [] [], .reg [] [], .reg [] [], .reg [] [], .reg [] [], .reg [] [], .reg [] [(8, .bit false)], .reg [] [], .reg [] [], .reg [] [], .reg [] [(11, .call (AV.tup [I 0, I 1]) [.cells [AV.sl 1 (ints cc) false, AV.sl 1 (ints ci) false, I (↑used : Int), I cu, I v] []]), (14, .call (B false) [.cells [I fuel, B false, I steps, AV.la 1 1, I 2, I 0, B false, AV.sl 1 (strs es) false, AV.sl 14 (Def.encs ds) false, I mk, I mn, I mv, I mtk, I mtv, AV.sl 3 (Ty.encs mtl) false, AV.sl 7 (Expr.encs ml) false, AV.ifc 46 (AV.lp 2 0), AV.la 3 1, AV.ip [I 8, I n, I v, I tk, I tv, AV.sl 3 (Ty.encs tl) false, AV.sl 7 (Expr.encs l) false] 0, AV.ip (envC env) 0, I wn, I wf, AV.ip (lamC wl) 0, AV.ip (envC we) 0] [9, 10, 11, 12, 13, 14, 15], .arr 1 1 E, .cells [AV.sl 1 (ints cc) false, AV.sl 1 (ints ci) false, I (↑used : Int), I cu, I v] [], .arr 1 7 R])]] [] [] (B false) ([.cells [I fuel, B false, I steps, AV.la 1 1, I 2, I 0, B false, AV.sl 1 (strs es) false, AV.sl 14 (Def.encs ds) false, I mk, I mn, I mv, I mtk, I mtv, AV.sl 3 (Ty.encs mtl) false, AV.sl 7 (Expr.encs ml) false, AV.ifc 46 (AV.lp 2 0), AV.la 3 1, AV.ip [I 8, I n, I v, I tk, I tv, AV.sl 3 (Ty.encs tl) false, AV.sl 7 (Expr.encs l) false] 0, AV.ip (envC env) 0, I wn, I wf, AV.ip (lamC wl) 0, AV.ip (envC we) 0] [9, 10, 11, 12, 13, 14, 15], .arr 1 1 E, .cells [AV.sl 1 (ints cc) false, AV.sl 1 (ints ci) false, I (↑used : Int), I cu, I v] [], .arr 1 7 R]) (by kernel_rfl) (q (decide (fuel ≤ steps) = false) (ob1 (hp) (ob1 (h) ob0)))

theorem move_wrong (used : Nat) (n v c tk tv : Int) (tl : List Ty) (l : List Expr) (hf : steps < fuel) (hc : cc[used]? = some c) (hl : cc.length ≤ 4294967296) (hw : c < 0 ∨ v ≤ c) :
    SoundCall Tryd.prog 24 [.lp 0 0]
      [Mc fuel ⟨es, ds, .mk mk mn mv (.mk mtk mtv mtl) ml⟩ steps 1 1 0 0 false (some (.mk 8 n v (.mk tk tv tl) l)) env (.mk wn wf wl we), .arr 1 1 E, lists cc ci cu used 0, .arr 1 7 R]
      (B false) [Mc fuel ⟨es, ds, .mk mk mn mv (.mk mtk mtv mtl) ml⟩ steps 1 1 0 0 true (some (.mk 8 n v (.mk tk tv tl) l)) env (.mk wn wf wl we), .arr 1 1 E, lists cc ci cu used 0, .arr 1 7 R] := by
  have hp := pick_wrong cc ci cu used 0 v c hc hl hw
  have h := answered2 fuel steps es ds mk mn mv mtk mtv mtl ml E R cc ci cu used 0 (some (.mk 8 n v (.mk tk tv tl) l)) env wn wf wl we 0 0 false 0
  clear hc
  exact Fn.go KT Tryd.func24 [.reg [] [], .reg [] [], .reg [] [], .reg [] [], .reg [] [], .reg [] [], .reg [] [], .reg [] [], .reg [] [], .reg [] [], .reg [] [], .reg [] [], .reg [] [], .reg [] [], .reg [] [(8, .bit false)], .reg [] [], .reg [] [], .reg [] [], .reg [] [(11, .call (AV.tup [I 0, I 2]) [.cells [AV.sl 1 (ints cc) false, AV.sl 1 (ints ci) false, I (↑used : Int), I cu, I 0] []]), (14, .call (B false) [.cells [I fuel, B false, I steps, AV.la 1 1, I 0, I 0, B true, AV.sl 1 (strs es) false, AV.sl 14 (Def.encs ds) false, I mk, I mn, I mv, I mtk, I mtv, AV.sl 3 (Ty.encs mtl) false, AV.sl 7 (Expr.encs ml) false, AV.ifc 46 (AV.lp 2 0), AV.la 3 1, AV.ip [I 8, I n, I v, I tk, I tv, AV.sl 3 (Ty.encs tl) false, AV.sl 7 (Expr.encs l) false] 0, AV.ip (envC env) 0, I wn, I wf, AV.ip (lamC wl) 0, AV.ip (envC we) 0] [9, 10, 11, 12, 13, 14, 15], .arr 1 1 E, .cells [AV.sl 1 (ints cc) false, AV.sl 1 (ints ci) false, I (↑used : Int), I cu, I 0] [], .arr 1 7 R])]] [] [] (B false) ([.cells [I fuel, B false, I steps, AV.la 1 1, I 0, I 0, B true, AV.sl 1 (strs es) false, AV.sl 14 (Def.encs ds) false, I mk, I mn, I mv, I mtk, I mtv, AV.sl 3 (Ty.encs mtl) false, AV.sl 7 (Expr.encs ml) false, AV.ifc 46 (AV.lp 2 0), AV.la 3 1, AV.ip [I 8, I n, I v, I tk, I tv, AV.sl 3 (Ty.encs tl) false, AV.sl 7 (Expr.encs l) false] 0, AV.ip (envC env) 0, I wn, I wf, AV.ip (lamC wl) 0, AV.ip (envC we) 0] [9, 10, 11, 12, 13, 14, 15], .arr 1 1 E, .cells [AV.sl 1 (ints cc) false, AV.sl 1 (ints ci) false, I (↑used : Int), I cu, I 0] [], .arr 1 7 R]) (by kernel_rfl) (q (decide (fuel ≤ steps) = false) (ob1 (hp) (ob1 (h) ob0)))

theorem move_fine (used : Nat) (n v c tk tv : Int) (tl : List Ty) (l : List Expr) (hf : steps < fuel) (hs : 0 ≤ steps ∧ steps ≤ 10000000) (hc : cc[used]? = some c) (hl : cc.length ≤ 4294967296) (h0 : 0 ≤ c) (h1 : c < v) :
    SoundCall Tryd.prog 24 [.lp 0 0]
      [Mc fuel ⟨es, ds, .mk mk mn mv (.mk mtk mtv mtl) ml⟩ steps 1 1 0 0 false (some (.mk 8 n v (.mk tk tv tl) l)) env (.mk wn wf wl we), .arr 1 1 E, lists cc ci cu used 0, .arr 1 7 R]
      (B true) [Mc fuel ⟨es, ds, .mk mk mn mv (.mk mtk mtv mtl) ml⟩ (steps + 1) 1 1 0 0 false none [] (.mk c 0 none []), .arr 1 1 E, lists cc ci cu ((used : Int) + 1) 0, .arr 1 7 R] := by
  have hp := pick_fine cc ci cu used 0 v c hc hl h0 h1
  have h := answered0 fuel steps es ds mk mn mv mtk mtv mtl ml E R cc ci cu ((used : Int) + 1) 0 (some (.mk 8 n v (.mk tk tv tl) l)) env wn wf wl we 0 0 false c hs
  clear hc
  exact Fn.go KT Tryd.func24 [.reg [] [], .reg [] [], .reg [] [], .reg [] [], .reg [] [], .reg [] [], .reg [] [], .reg [] [], .reg [] [], .reg [] [], .reg [] [], .reg [] [], .reg [] [], .reg [] [], .reg [] [(8, .bit false)], .reg [] [], .reg [] [], .reg [] [], .reg [] [(11, .call (AV.tup [I c, I 0]) [.cells [AV.sl 1 (ints cc) false, AV.sl 1 (ints ci) false, I ((↑used : Int) + 1), I cu, I 0] []]), (14, .call (B true) [.cells [I fuel, B false, I (steps + 1), AV.la 1 1, I 0, I 0, B false, AV.sl 1 (strs es) false, AV.sl 14 (Def.encs ds) false, I mk, I mn, I mv, I mtk, I mtv, AV.sl 3 (Ty.encs mtl) false, AV.sl 7 (Expr.encs ml) false, AV.ifc 46 (AV.lp 2 0), AV.la 3 1, AV.ip [] 0, AV.ip [] 0, I c, I 0, AV.ip [] 0, AV.ip [] 0] [9, 10, 11, 12, 13, 14, 15], .arr 1 1 E, .cells [AV.sl 1 (ints cc) false, AV.sl 1 (ints ci) false, I ((↑used : Int) + 1), I cu, I 0] [], .arr 1 7 R])]] [] [] (B true) ([.cells [I fuel, B false, I (steps + 1), AV.la 1 1, I 0, I 0, B false, AV.sl 1 (strs es) false, AV.sl 14 (Def.encs ds) false, I mk, I mn, I mv, I mtk, I mtv, AV.sl 3 (Ty.encs mtl) false, AV.sl 7 (Expr.encs ml) false, AV.ifc 46 (AV.lp 2 0), AV.la 3 1, AV.ip [] 0, AV.ip [] 0, I c, I 0, AV.ip [] 0, AV.ip [] 0] [9, 10, 11, 12, 13, 14, 15], .arr 1 1 E, .cells [AV.sl 1 (ints cc) false, AV.sl 1 (ints ci) false, I ((↑used : Int) + 1), I cu, I 0] [], .arr 1 7 R]) (by kernel_rfl) (q (decide (fuel ≤ steps) = false) (ob1 (hp) (ob1 (h) ob0)))

theorem move_int (used : Int) (n v tk tv : Int) (tl : List Ty) (l : List Expr) :
    SoundCall Tryd.prog 24 [.lp 0 0]
      [Mc fuel ⟨es, ds, .mk mk mn mv (.mk mtk mtv mtl) ml⟩ steps 1 1 0 0 false (some (.mk 9 n v (.mk tk tv tl) l)) env (.mk wn wf wl we), .arr 1 1 E, lists cc ci cu used 0, .arr 1 7 R]
      (B true) [Mc fuel ⟨es, ds, .mk mk mn mv (.mk mtk mtv mtl) ml⟩ steps 1 1 0 0 false none [] (.mk n 0 none []), .arr 1 1 E, lists cc ci cu used 0, .arr 1 7 R] := by
  have hp := lint_ cc ci cu used 0 n
  have h := yield_ fuel steps es ds mk mn mv mtk mtv mtl ml E R cc ci cu used 0 (some (.mk 9 n v (.mk tk tv tl) l)) env wn wf wl we 0 0 false n 0 none []
  exact Fn.go KT Tryd.func24 [.reg [] [], .reg [] [], .reg [] [], .reg [] [], .reg [] [], .reg [] [], .reg [] [(11, .call (I n) [.cells [AV.sl 1 (ints cc) false, AV.sl 1 (ints ci) false, I used, I cu, I 0] []]), (13, .call (B true) [.cells [I fuel, B false, I steps, AV.la 1 1, I 0, I 0, B false, AV.sl 1 (strs es) false, AV.sl 14 (Def.encs ds) false, I mk, I mn, I mv, I mtk, I mtv, AV.sl 3 (Ty.encs mtl) false, AV.sl 7 (Expr.encs ml) false, AV.ifc 46 (AV.lp 2 0), AV.la 3 1, AV.ip [] 0, AV.ip [] 0, I n, I 0, AV.ip [] 0, AV.ip [] 0] [9, 10, 11, 12, 13, 14, 15], .arr 1 1 E, .cells [AV.sl 1 (ints cc) false, AV.sl 1 (ints ci) false, I used, I cu, I 0] [], .arr 1 7 R])]] [] [] (B true) ([.cells [I fuel, B false, I steps, AV.la 1 1, I 0, I 0, B false, AV.sl 1 (strs es) false, AV.sl 14 (Def.encs ds) false, I mk, I mn, I mv, I mtk, I mtv, AV.sl 3 (Ty.encs mtl) false, AV.sl 7 (Expr.encs ml) false, AV.ifc 46 (AV.lp 2 0), AV.la 3 1, AV.ip [] 0, AV.ip [] 0, I n, I 0, AV.ip [] 0, AV.ip [] 0] [9, 10, 11, 12, 13, 14, 15], .arr 1 1 E, .cells [AV.sl 1 (ints cc) false, AV.sl 1 (ints ci) false, I used, I cu, I 0] [], .arr 1 7 R]) (by kernel_rfl) (ob1 (hp) (ob1 (h) ob0))

theorem move_awant (c is : List Int) (ui : Nat) (used : Int) (n v tk tv : Int) (tl : List Ty) (l : List Expr) (hf : steps < fuel) (hu : ui = is.length) (hl : is.length ≤ 4294967296) :
    SoundCall Tryd.prog 24 [.lp 0 0]
      [Mc fuel ⟨es, ds, .mk mk mn mv (.mk mtk mtv mtl) ml⟩ steps 1 1 0 0 false (some (.mk 10 n v (.mk tk tv tl) l)) env (.mk wn wf wl we), .arr 1 1 E, lists c is (ui) used 0, .arr 1 7 R]
      (B false) [Mc fuel ⟨es, ds, .mk mk mn mv (.mk mtk mtv mtl) ml⟩ steps 1 1 2 0 false (some (.mk 10 n v (.mk tk tv tl) l)) env (.mk wn wf wl we), .arr 1 1 E, lists c is (ui) used 0, .arr 1 7 R] := by
  have hp := any_want c is ui used 0 hu hl
  have h := answered1 fuel steps es ds mk mn mv mtk mtv mtl ml E R c is (ui) used 0 (some (.mk 10 n v (.mk tk tv tl) l)) env wn wf wl we 0 0 false 0
  exact Fn.go KT Tryd.func24 [.reg [] [], .reg [] [], .reg [] [], .reg [] [], .reg [] [], .reg [] [], .reg [] [], .reg [] [], .reg [] [], .reg [] [], .reg [] [], .reg [] [], .reg [] [], .reg [] [], .reg [] [(8, .bit false)], .reg [] [], .reg [] [], .reg [] [(5, .call (AV.tup [I 0, I 1]) [.cells [AV.sl 1 (ints c) false, AV.sl 1 (ints is) false, I used, I (↑ui : Int), I 0] []]), (8, .call (B false) [.cells [I fuel, B false, I steps, AV.la 1 1, I 2, I 0, B false, AV.sl 1 (strs es) false, AV.sl 14 (Def.encs ds) false, I mk, I mn, I mv, I mtk, I mtv, AV.sl 3 (Ty.encs mtl) false, AV.sl 7 (Expr.encs ml) false, AV.ifc 46 (AV.lp 2 0), AV.la 3 1, AV.ip [I 10, I n, I v, I tk, I tv, AV.sl 3 (Ty.encs tl) false, AV.sl 7 (Expr.encs l) false] 0, AV.ip (envC env) 0, I wn, I wf, AV.ip (lamC wl) 0, AV.ip (envC we) 0] [9, 10, 11, 12, 13, 14, 15], .arr 1 1 E, .cells [AV.sl 1 (ints c) false, AV.sl 1 (ints is) false, I used, I (↑ui : Int), I 0] [], .arr 1 7 R])]] [] [] (B false) ([.cells [I fuel, B false, I steps, AV.la 1 1, I 2, I 0, B false, AV.sl 1 (strs es) false, AV.sl 14 (Def.encs ds) false, I mk, I mn, I mv, I mtk, I mtv, AV.sl 3 (Ty.encs mtl) false, AV.sl 7 (Expr.encs ml) false, AV.ifc 46 (AV.lp 2 0), AV.la 3 1, AV.ip [I 10, I n, I v, I tk, I tv, AV.sl 3 (Ty.encs tl) false, AV.sl 7 (Expr.encs l) false] 0, AV.ip (envC env) 0, I wn, I wf, AV.ip (lamC wl) 0, AV.ip (envC we) 0] [9, 10, 11, 12, 13, 14, 15], .arr 1 1 E, .cells [AV.sl 1 (ints c) false, AV.sl 1 (ints is) false, I used, I (↑ui : Int), I 0] [], .arr 1 7 R]) (by kernel_rfl) (q (decide (fuel ≤ steps) = false) (ob1 (hp) (ob1 (h) ob0)))

theorem move_awrong (c is : List Int) (ui : Nat) (used : Int) (n v x tk tv : Int) (tl : List Ty) (l : List Expr) (hf : steps < fuel) (hc : is[ui]? = some x) (hl : is.length ≤ 4294967296) (hw : x < -1099511627776 ∨ 1099511627776 < x) :
    SoundCall Tryd.prog 24 [.lp 0 0]
      [Mc fuel ⟨es, ds, .mk mk mn mv (.mk mtk mtv mtl) ml⟩ steps 1 1 0 0 false (some (.mk 10 n v (.mk tk tv tl) l)) env (.mk wn wf wl we), .arr 1 1 E, lists c is (ui) used 0, .arr 1 7 R]
      (B false) [Mc fuel ⟨es, ds, .mk mk mn mv (.mk mtk mtv mtl) ml⟩ steps 1 1 0 0 true (some (.mk 10 n v (.mk tk tv tl) l)) env (.mk wn wf wl we), .arr 1 1 E, lists c is (ui) used 0, .arr 1 7 R] := by
  have hp := any_wrong c is ui used 0 x hc hl hw
  have h := answered2 fuel steps es ds mk mn mv mtk mtv mtl ml E R c is (ui) used 0 (some (.mk 10 n v (.mk tk tv tl) l)) env wn wf wl we 0 0 false 0
  clear hc
  exact Fn.go KT Tryd.func24 [.reg [] [], .reg [] [], .reg [] [], .reg [] [], .reg [] [], .reg [] [], .reg [] [], .reg [] [], .reg [] [], .reg [] [], .reg [] [], .reg [] [], .reg [] [], .reg [] [], .reg [] [(8, .bit false)], .reg [] [], .reg [] [], .reg [] [(5, .call (AV.tup [I 0, I 2]) [.cells [AV.sl 1 (ints c) false, AV.sl 1 (ints is) false, I used, I (↑ui : Int), I 0] []]), (8, .call (B false) [.cells [I fuel, B false, I steps, AV.la 1 1, I 0, I 0, B true, AV.sl 1 (strs es) false, AV.sl 14 (Def.encs ds) false, I mk, I mn, I mv, I mtk, I mtv, AV.sl 3 (Ty.encs mtl) false, AV.sl 7 (Expr.encs ml) false, AV.ifc 46 (AV.lp 2 0), AV.la 3 1, AV.ip [I 10, I n, I v, I tk, I tv, AV.sl 3 (Ty.encs tl) false, AV.sl 7 (Expr.encs l) false] 0, AV.ip (envC env) 0, I wn, I wf, AV.ip (lamC wl) 0, AV.ip (envC we) 0] [9, 10, 11, 12, 13, 14, 15], .arr 1 1 E, .cells [AV.sl 1 (ints c) false, AV.sl 1 (ints is) false, I used, I (↑ui : Int), I 0] [], .arr 1 7 R])]] [] [] (B false) ([.cells [I fuel, B false, I steps, AV.la 1 1, I 0, I 0, B true, AV.sl 1 (strs es) false, AV.sl 14 (Def.encs ds) false, I mk, I mn, I mv, I mtk, I mtv, AV.sl 3 (Ty.encs mtl) false, AV.sl 7 (Expr.encs ml) false, AV.ifc 46 (AV.lp 2 0), AV.la 3 1, AV.ip [I 10, I n, I v, I tk, I tv, AV.sl 3 (Ty.encs tl) false, AV.sl 7 (Expr.encs l) false] 0, AV.ip (envC env) 0, I wn, I wf, AV.ip (lamC wl) 0, AV.ip (envC we) 0] [9, 10, 11, 12, 13, 14, 15], .arr 1 1 E, .cells [AV.sl 1 (ints c) false, AV.sl 1 (ints is) false, I used, I (↑ui : Int), I 0] [], .arr 1 7 R]) (by kernel_rfl) (q (decide (fuel ≤ steps) = false) (ob1 (hp) (ob1 (h) ob0)))

theorem move_afine (c is : List Int) (ui : Nat) (used : Int) (n v x tk tv : Int) (tl : List Ty) (l : List Expr) (hf : steps < fuel) (hs : 0 ≤ steps ∧ steps ≤ 10000000) (hc : is[ui]? = some x) (hl : is.length ≤ 4294967296) (h0 : -1099511627776 ≤ x) (h1 : x ≤ 1099511627776) :
    SoundCall Tryd.prog 24 [.lp 0 0]
      [Mc fuel ⟨es, ds, .mk mk mn mv (.mk mtk mtv mtl) ml⟩ steps 1 1 0 0 false (some (.mk 10 n v (.mk tk tv tl) l)) env (.mk wn wf wl we), .arr 1 1 E, lists c is (ui) used 0, .arr 1 7 R]
      (B true) [Mc fuel ⟨es, ds, .mk mk mn mv (.mk mtk mtv mtl) ml⟩ (steps + 1) 1 1 0 0 false none [] (.mk x 0 none []), .arr 1 1 E, lists c is ((ui : Int) + 1) used 0, .arr 1 7 R] := by
  have hp := any_fine c is ui used 0 x hc hl h0 h1
  have h := answered0 fuel steps es ds mk mn mv mtk mtv mtl ml E R c is ((ui : Int) + 1) used 0 (some (.mk 10 n v (.mk tk tv tl) l)) env wn wf wl we 0 0 false x hs
  clear hc
  exact Fn.go KT Tryd.func24 [.reg [] [], .reg [] [], .reg [] [], .reg [] [], .reg [] [], .reg [] [], .reg [] [], .reg [] [], .reg [] [], .reg [] [], .reg [] [], .reg [] [], .reg [] [], .reg [] [], .reg [] [(8, .bit false)], .reg [] [], .reg [] [], .reg [] [(5, .call (AV.tup [I x, I 0]) [.cells [AV.sl 1 (ints c) false, AV.sl 1 (ints is) false, I used, I ((↑ui : Int) + 1), I 0] []]), (8, .call (B true) [.cells [I fuel, B false, I (steps + 1), AV.la 1 1, I 0, I 0, B false, AV.sl 1 (strs es) false, AV.sl 14 (Def.encs ds) false, I mk, I mn, I mv, I mtk, I mtv, AV.sl 3 (Ty.encs mtl) false, AV.sl 7 (Expr.encs ml) false, AV.ifc 46 (AV.lp 2 0), AV.la 3 1, AV.ip [] 0, AV.ip [] 0, I x, I 0, AV.ip [] 0, AV.ip [] 0] [9, 10, 11, 12, 13, 14, 15], .arr 1 1 E, .cells [AV.sl 1 (ints c) false, AV.sl 1 (ints is) false, I used, I ((↑ui : Int) + 1), I 0] [], .arr 1 7 R])]] [] [] (B true) ([.cells [I fuel, B false, I (steps + 1), AV.la 1 1, I 0, I 0, B false, AV.sl 1 (strs es) false, AV.sl 14 (Def.encs ds) false, I mk, I mn, I mv, I mtk, I mtv, AV.sl 3 (Ty.encs mtl) false, AV.sl 7 (Expr.encs ml) false, AV.ifc 46 (AV.lp 2 0), AV.la 3 1, AV.ip [] 0, AV.ip [] 0, I x, I 0, AV.ip [] 0, AV.ip [] 0] [9, 10, 11, 12, 13, 14, 15], .arr 1 1 E, .cells [AV.sl 1 (ints c) false, AV.sl 1 (ints is) false, I used, I ((↑ui : Int) + 1), I 0] [], .arr 1 7 R]) (by kernel_rfl) (q (decide (fuel ≤ steps) = false) (ob1 (hp) (ob1 (h) ob0)))

theorem move_full (used : Int) (n v tk tv : Int) (tl : List Ty) (l : List Expr) (hf : steps < fuel) (hE : 4096 ≤ E.length) (hE2 : E.length ≤ 100000) :
    SoundCall Tryd.prog 24 [.lp 0 0]
      [Mc fuel ⟨es, ds, .mk mk mn mv (.mk mtk mtv mtl) ml⟩ steps 1 1 0 0 false (some (.mk 7 n v (.mk tk tv tl) l)) env (.mk wn wf wl we), .arr 1 1 E, lists cc ci cu used 0, .arr 1 7 R]
      (B false) [Mc fuel ⟨es, ds, .mk mk mn mv (.mk mtk mtv mtl) ml⟩ steps 1 1 1 0 false (some (.mk 7 n v (.mk tk tv tl) l)) env (.mk wn wf wl we), .arr 1 1 E, lists cc ci cu used 0, .arr 1 7 R] := by
  have h := stop_ fuel steps es ds mk mn mv mtk mtv mtl ml E R cc ci cu used 0 (some (.mk 7 n v (.mk tk tv tl) l)) env wn wf wl we 0 0 false 1
  exact Fn.go KT Tryd.func24 [.reg [] [], .reg [] [], .reg [] [], .reg [] [], .reg [] [], .reg [] [], .reg [] [], .reg [] [], .reg [] [], .reg [] [], .reg [] [], .reg [] [], .reg [] [], .reg [] [], .reg [] [(8, .bit false)], .reg [] [], .reg [] [], .reg [] [], .reg [] [(5, .bit true)], .reg [] [(1, .call (B false) [.cells [I fuel, B false, I steps, AV.la 1 1, I 1, I 0, B false, AV.sl 1 (strs es) false, AV.sl 14 (Def.encs ds) false, I mk, I mn, I mv, I mtk, I mtv, AV.sl 3 (Ty.encs mtl) false, AV.sl 7 (Expr.encs ml) false, AV.ifc 46 (AV.lp 2 0), AV.la 3 1, AV.ip [I 7, I n, I v, I tk, I tv, AV.sl 3 (Ty.encs tl) false, AV.sl 7 (Expr.encs l) false] 0, AV.ip (envC env) 0, I wn, I wf, AV.ip (lamC wl) 0, AV.ip (envC we) 0] [9, 10, 11, 12, 13, 14, 15], .arr 1 1 E, .cells [AV.sl 1 (ints cc) false, AV.sl 1 (ints ci) false, I used, I cu, I 0] [], .arr 1 7 R])]] [] [] (B false) ([.cells [I fuel, B false, I steps, AV.la 1 1, I 1, I 0, B false, AV.sl 1 (strs es) false, AV.sl 14 (Def.encs ds) false, I mk, I mn, I mv, I mtk, I mtv, AV.sl 3 (Ty.encs mtl) false, AV.sl 7 (Expr.encs ml) false, AV.ifc 46 (AV.lp 2 0), AV.la 3 1, AV.ip [I 7, I n, I v, I tk, I tv, AV.sl 3 (Ty.encs tl) false, AV.sl 7 (Expr.encs l) false] 0, AV.ip (envC env) 0, I wn, I wf, AV.ip (lamC wl) 0, AV.ip (envC we) 0] [9, 10, 11, 12, 13, 14, 15], .arr 1 1 E, .cells [AV.sl 1 (ints cc) false, AV.sl 1 (ints ci) false, I used, I cu, I 0] [], .arr 1 7 R]) (by kernel_rfl) (q (decide (fuel ≤ steps) = false) (q (decide (4096 ≤ (↑(List.length E) : Int)) = true) (ob1 (h) ob0)))

theorem move_event (used : Int) (n v tk tv : Int) (tl : List Ty) (ak an av atk atv : Int) (atl : List Ty) (al xl : List Expr) (hf : steps < fuel) (hs : 0 ≤ steps ∧ steps ≤ 10000000) (hE : E.length < 4096) (hl : xl.length ≤ 4294967296) :
    SoundCall Tryd.prog 24 [.lp 0 0]
      [Mc fuel ⟨es, ds, .mk mk mn mv (.mk mtk mtv mtl) ml⟩ steps 1 1 0 0 false (some (.mk 7 n v (.mk tk tv tl) (.mk ak an av (.mk atk atv atl) al :: xl))) env (.mk wn wf wl we), .arr 1 1 E, lists cc ci cu used 0, .arr 1 7 R]
      (B true) [Mc fuel ⟨es, ds, .mk mk mn mv (.mk mtk mtv mtl) ml⟩ (steps + 1) 2 1 0 0 false (some (.mk ak an av (.mk atk atv atl) al)) env (.mk wn wf wl we), .arr 2 1 (E ++ [[I n]]), lists cc ci cu used 0, .arr 1 7 R] := by
  have hF : Fits (E.length + 1) E.length 8 := by apply Fits.of; omega
  have hp := event_ cc ci cu used 0 n
  have h := fun E => goes_ fuel (steps + 1) es ds mk mn mv mtk mtv mtl ml E R cc ci cu used 0 (some (.mk 7 n v (.mk tk tv tl) (.mk ak an av (.mk atk atv atl) al :: xl))) env wn wf wl we 0 0 false (some (.mk ak an av (.mk atk atv atl) al)) env
  exact Fn.go KT Tryd.func24 [.reg [] [], .reg [] [], .reg [] [], .reg [] [], .reg [] [], .reg [] [], .reg [] [], .reg [] [], .reg [] [], .reg [] [], .reg [] [], .reg [] [], .reg [] [], .reg [] [], .reg [] [(8, .bit false)], .reg [] [], .reg [] [], .reg [] [], .reg [] [(5, .bit false)], .reg [] [(4, .int (steps + 1))], .reg [] [], .reg [] [(10, .call (AV.tup []) [.cells [AV.sl 1 (ints cc) false, AV.sl 1 (ints ci) false, I used, I cu, I 0] []])], .reg [] [(5, .row 0 [I ak, I an, I av, I atk, I atv, AV.sl 3 (Ty.encs atl) false, AV.sl 7 (Expr.encs al) false]), (10, .call (B true) [.cells [I fuel, B false, I (steps + 1), AV.la 1 1, I 0, I 0, B false, AV.sl 1 (strs es) false, AV.sl 14 (Def.encs ds) false, I mk, I mn, I mv, I mtk, I mtv, AV.sl 3 (Ty.encs mtl) false, AV.sl 7 (Expr.encs ml) false, AV.ifc 46 (AV.lp 2 0), AV.la 3 1, AV.ip [I ak, I an, I av, I atk, I atv, AV.sl 3 (Ty.encs atl) false, AV.sl 7 (Expr.encs al) false] 0, AV.ip (envC env) 0, I wn, I wf, AV.ip (lamC wl) 0, AV.ip (envC we) 0] [9, 10, 11, 12, 13, 14, 15], .arr 1 1 (E ++ [[I n]]), .cells [AV.sl 1 (ints cc) false, AV.sl 1 (ints ci) false, I used, I cu, I 0] [], .arr 1 7 R])]] [] [] (B true) ([.cells [I fuel, B false, I (steps + 1), AV.la 1 2, I 0, I 0, B false, AV.sl 1 (strs es) false, AV.sl 14 (Def.encs ds) false, I mk, I mn, I mv, I mtk, I mtv, AV.sl 3 (Ty.encs mtl) false, AV.sl 7 (Expr.encs ml) false, AV.ifc 46 (AV.lp 2 0), AV.la 3 1, AV.ip [I ak, I an, I av, I atk, I atv, AV.sl 3 (Ty.encs atl) false, AV.sl 7 (Expr.encs al) false] 0, AV.ip (envC env) 0, I wn, I wf, AV.ip (lamC wl) 0, AV.ip (envC we) 0] [9, 10, 11, 12, 13, 14, 15], .arr 2 1 (E ++ [[I n]]), .cells [AV.sl 1 (ints cc) false, AV.sl 1 (ints ci) false, I used, I cu, I 0] [], .arr 1 7 R]) (by kernel_rfl) (q (decide (fuel ≤ steps) = false) (q (decide (4096 ≤ (↑(List.length E) : Int)) = false) (qw (steps + 1) (q (Fits (List.length E + 1) (List.length E) 8) (ob1 (hp) (q ((0 : Int) = (↑(0 : Nat) : Int)) (q (([I ak, I an, I av, I atk, I atv, AV.sl 3 (Ty.encs atl) false, AV.sl 7 (Expr.encs al) false] :: Expr.encs xl)[0]? = some [I ak, I an, I av, I atk, I atv, AV.sl 3 (Ty.encs atl) false, AV.sl 7 (Expr.encs al) false]) (ob1 (h (E ++ [[I n]])) ob0))))))))

end

theorem move_back1 (fuel steps : Int) (es : List ByteArray) (ds : List Def) (mk mn mv mtk mtv : Int) (mtl : List Ty) (ml : List Expr) (E R : List (List AV)) (cc ci : List Int) (cu : Int)
  (env : List Vl) (wn wf : Int) (wl : Option Expr) (we : List Vl) (used : Int) (b : Bool) (steps' en value : Int) (e2 : Option Expr) (env2 : List Vl) (xn xf : Int) (xl : Option Expr) (xe : List Vl) (R' : List (List AV))
    (h : SoundCall Tryd.prog 39 [.lp 0 0]
      [Mc fuel ⟨es, ds, .mk mk mn mv (.mk mtk mtv mtl) ml⟩ steps 1 1 0 0 false none env (.mk wn wf wl we), .arr 1 1 E, lists cc ci cu used 0, .arr 1 7 R]
      (B b) [Mc fuel ⟨es, ds, .mk mk mn mv (.mk mtk mtv mtl) ml⟩ steps' 1 1 en value false e2 env2 (.mk xn xf xl xe), .arr 1 1 E, lists cc ci cu used 0, .arr 1 7 R']) :
    SoundCall Tryd.prog 24 [.lp 0 0]
      [Mc fuel ⟨es, ds, .mk mk mn mv (.mk mtk mtv mtl) ml⟩ steps 1 1 0 0 false none env (.mk wn wf wl we), .arr 1 1 E, lists cc ci cu used 0, .arr 1 7 R]
      (B b) [Mc fuel ⟨es, ds, .mk mk mn mv (.mk mtk mtv mtl) ml⟩ steps' 1 1 en value false e2 env2 (.mk xn xf xl xe), .arr 1 1 E, lists cc ci cu used 0, .arr 1 7 R'] := by
  cases b with
  | true => exact Fn.go KT Tryd.func24 [.reg [] [], .reg [] [], .reg [] [(1, .call (B true) [.cells [I fuel, B false, I steps', AV.la 1 1, I en, I value, B false, AV.sl 1 (strs es) false, AV.sl 14 (Def.encs ds) false, I mk, I mn, I mv, I mtk, I mtv, AV.sl 3 (Ty.encs mtl) false, AV.sl 7 (Expr.encs ml) false, AV.ifc 46 (AV.lp 2 0), AV.la 3 1, AV.ip (lamC e2) 0, AV.ip (envC env2) 0, I xn, I xf, AV.ip (lamC xl) 0, AV.ip (envC xe) 0] [9, 10, 11, 12, 13, 14, 15], .arr 1 1 E, .cells [AV.sl 1 (ints cc) false, AV.sl 1 (ints ci) false, I used, I cu, I 0] [], .arr 1 7 R'])]] [] [] (B true) ([.cells [I fuel, B false, I steps', AV.la 1 1, I en, I value, B false, AV.sl 1 (strs es) false, AV.sl 14 (Def.encs ds) false, I mk, I mn, I mv, I mtk, I mtv, AV.sl 3 (Ty.encs mtl) false, AV.sl 7 (Expr.encs ml) false, AV.ifc 46 (AV.lp 2 0), AV.la 3 1, AV.ip (lamC e2) 0, AV.ip (envC env2) 0, I xn, I xf, AV.ip (lamC xl) 0, AV.ip (envC xe) 0] [9, 10, 11, 12, 13, 14, 15], .arr 1 1 E, .cells [AV.sl 1 (ints cc) false, AV.sl 1 (ints ci) false, I used, I cu, I 0] [], .arr 1 7 R']) (by kernel_rfl) (ob1 (h) ob0)
  | false => exact Fn.go KT Tryd.func24 [.reg [] [], .reg [] [], .reg [] [(1, .call (B false) [.cells [I fuel, B false, I steps', AV.la 1 1, I en, I value, B false, AV.sl 1 (strs es) false, AV.sl 14 (Def.encs ds) false, I mk, I mn, I mv, I mtk, I mtv, AV.sl 3 (Ty.encs mtl) false, AV.sl 7 (Expr.encs ml) false, AV.ifc 46 (AV.lp 2 0), AV.la 3 1, AV.ip (lamC e2) 0, AV.ip (envC env2) 0, I xn, I xf, AV.ip (lamC xl) 0, AV.ip (envC xe) 0] [9, 10, 11, 12, 13, 14, 15], .arr 1 1 E, .cells [AV.sl 1 (ints cc) false, AV.sl 1 (ints ci) false, I used, I cu, I 0] [], .arr 1 7 R'])]] [] [] (B false) ([.cells [I fuel, B false, I steps', AV.la 1 1, I en, I value, B false, AV.sl 1 (strs es) false, AV.sl 14 (Def.encs ds) false, I mk, I mn, I mv, I mtk, I mtv, AV.sl 3 (Ty.encs mtl) false, AV.sl 7 (Expr.encs ml) false, AV.ifc 46 (AV.lp 2 0), AV.la 3 1, AV.ip (lamC e2) 0, AV.ip (envC env2) 0, I xn, I xf, AV.ip (lamC xl) 0, AV.ip (envC xe) 0] [9, 10, 11, 12, 13, 14, 15], .arr 1 1 E, .cells [AV.sl 1 (ints cc) false, AV.sl 1 (ints ci) false, I used, I cu, I 0] [], .arr 1 7 R']) (by kernel_rfl) (ob1 (h) ob0)

theorem move_back2 (fuel steps : Int) (es : List ByteArray) (ds : List Def) (mk mn mv mtk mtv : Int) (mtl : List Ty) (ml : List Expr) (E R : List (List AV)) (cc ci : List Int) (cu : Int)
  (env : List Vl) (wn wf : Int) (wl : Option Expr) (we : List Vl) (used : Int) (b : Bool) (steps' en value : Int) (e2 : Option Expr) (env2 : List Vl) (xn xf : Int) (xl : Option Expr) (xe : List Vl) (R' : List (List AV))
    (h : SoundCall Tryd.prog 39 [.lp 0 0]
      [Mc fuel ⟨es, ds, .mk mk mn mv (.mk mtk mtv mtl) ml⟩ steps 1 1 0 0 false none env (.mk wn wf wl we), .arr 1 1 E, lists cc ci cu used 0, .arr 1 7 R]
      (B b) [Mc fuel ⟨es, ds, .mk mk mn mv (.mk mtk mtv mtl) ml⟩ steps' 1 2 en value false e2 env2 (.mk xn xf xl xe), .arr 1 1 E, lists cc ci cu used 0, .arr 2 7 R']) :
    SoundCall Tryd.prog 24 [.lp 0 0]
      [Mc fuel ⟨es, ds, .mk mk mn mv (.mk mtk mtv mtl) ml⟩ steps 1 1 0 0 false none env (.mk wn wf wl we), .arr 1 1 E, lists cc ci cu used 0, .arr 1 7 R]
      (B b) [Mc fuel ⟨es, ds, .mk mk mn mv (.mk mtk mtv mtl) ml⟩ steps' 1 2 en value false e2 env2 (.mk xn xf xl xe), .arr 1 1 E, lists cc ci cu used 0, .arr 2 7 R'] := by
  cases b with
  | true => exact Fn.go KT Tryd.func24 [.reg [] [], .reg [] [], .reg [] [(1, .call (B true) [.cells [I fuel, B false, I steps', AV.la 1 1, I en, I value, B false, AV.sl 1 (strs es) false, AV.sl 14 (Def.encs ds) false, I mk, I mn, I mv, I mtk, I mtv, AV.sl 3 (Ty.encs mtl) false, AV.sl 7 (Expr.encs ml) false, AV.ifc 46 (AV.lp 2 0), AV.la 3 2, AV.ip (lamC e2) 0, AV.ip (envC env2) 0, I xn, I xf, AV.ip (lamC xl) 0, AV.ip (envC xe) 0] [9, 10, 11, 12, 13, 14, 15], .arr 1 1 E, .cells [AV.sl 1 (ints cc) false, AV.sl 1 (ints ci) false, I used, I cu, I 0] [], .arr 2 7 R'])]] [] [] (B true) ([.cells [I fuel, B false, I steps', AV.la 1 1, I en, I value, B false, AV.sl 1 (strs es) false, AV.sl 14 (Def.encs ds) false, I mk, I mn, I mv, I mtk, I mtv, AV.sl 3 (Ty.encs mtl) false, AV.sl 7 (Expr.encs ml) false, AV.ifc 46 (AV.lp 2 0), AV.la 3 2, AV.ip (lamC e2) 0, AV.ip (envC env2) 0, I xn, I xf, AV.ip (lamC xl) 0, AV.ip (envC xe) 0] [9, 10, 11, 12, 13, 14, 15], .arr 1 1 E, .cells [AV.sl 1 (ints cc) false, AV.sl 1 (ints ci) false, I used, I cu, I 0] [], .arr 2 7 R']) (by kernel_rfl) (ob1 (h) ob0)
  | false => exact Fn.go KT Tryd.func24 [.reg [] [], .reg [] [], .reg [] [(1, .call (B false) [.cells [I fuel, B false, I steps', AV.la 1 1, I en, I value, B false, AV.sl 1 (strs es) false, AV.sl 14 (Def.encs ds) false, I mk, I mn, I mv, I mtk, I mtv, AV.sl 3 (Ty.encs mtl) false, AV.sl 7 (Expr.encs ml) false, AV.ifc 46 (AV.lp 2 0), AV.la 3 2, AV.ip (lamC e2) 0, AV.ip (envC env2) 0, I xn, I xf, AV.ip (lamC xl) 0, AV.ip (envC xe) 0] [9, 10, 11, 12, 13, 14, 15], .arr 1 1 E, .cells [AV.sl 1 (ints cc) false, AV.sl 1 (ints ci) false, I used, I cu, I 0] [], .arr 2 7 R'])]] [] [] (B false) ([.cells [I fuel, B false, I steps', AV.la 1 1, I en, I value, B false, AV.sl 1 (strs es) false, AV.sl 14 (Def.encs ds) false, I mk, I mn, I mv, I mtk, I mtv, AV.sl 3 (Ty.encs mtl) false, AV.sl 7 (Expr.encs ml) false, AV.ifc 46 (AV.lp 2 0), AV.la 3 2, AV.ip (lamC e2) 0, AV.ip (envC env2) 0, I xn, I xf, AV.ip (lamC xl) 0, AV.ip (envC xe) 0] [9, 10, 11, 12, 13, 14, 15], .arr 1 1 E, .cells [AV.sl 1 (ints cc) false, AV.sl 1 (ints ci) false, I used, I cu, I 0] [], .arr 2 7 R']) (by kernel_rfl) (ob1 (h) ob0)

end Go.Ae

/- The machine, plain: what a move does; a valid program never goes wrong; the number of moves. -/
namespace Go.Ae

structure MS where
  steps : Int
  ev : List Int
  fr : List Fr
  expr : Option Expr
  env : List Vl
  val : Vl
  used : Nat
  ui : Nat

inductive Out where
  | go (s : MS)
  | stop (s : MS) (en value width : Int) (wrong : Bool)

mutual
def Expr.nodes : Expr → Nat
  | .mk _ _ _ _ l => 1 + Expr.nodesL l
def Expr.nodesL : List Expr → Nat
  | [] => 0
  | e :: l => e.nodes + Expr.nodesL l
end

theorem nodes_mem : ∀ {l : List Expr} {x : Expr}, x ∈ l → x.nodes ≤ Expr.nodesL l
  | y :: l, x, h => by
    rcases List.mem_cons.1 h with rfl | h
    · simp only [Expr.nodesL]; omega
    · have := nodes_mem h; simp only [Expr.nodesL]; omega
theorem nodes_pos : ∀ e : Expr, 1 ≤ e.nodes
  | .mk _ _ _ _ l => by simp only [Expr.nodes]; omega
theorem nodesL_len : ∀ l : List Expr, l.length ≤ Expr.nodesL l
  | [] => by simp
  | e :: l => by have := nodesL_len l; have := nodes_pos e; simp only [Expr.nodesL, List.length_cons]; omega

/-- The rules. -/
inductive Mv (p : Prog) (fuel : Int) (ch is : List Int) : MS → Out → Prop
  | const {st ev fr n v ty l env val us ui} : Mv p fuel ch is ⟨st, ev, fr, some (.mk 0 n v ty l), env, val, us, ui⟩ (.go ⟨st, ev, fr, none, [], .mk n 0 none [], us, ui⟩)
  | var {st ev fr} {n : Nat} {v ty l env val us ui w} (h : env[n]? = some w) (hn : n ≤ 9223372036854775807) :
      Mv p fuel ch is ⟨st, ev, fr, some (.mk 1 (n : Int) v ty l), env, val, us, ui⟩ (.go ⟨st, ev, fr, none, [], w, us, ui⟩)
  | fn {st ev fr n v ty l env val us ui} (h0 : 0 ≤ n) (h1 : n ≤ 100000) : Mv p fuel ch is ⟨st, ev, fr, some (.mk 2 n v ty l), env, val, us, ui⟩ (.go ⟨st, ev, fr, none, [], .mk 0 (n + 1) none [], us, ui⟩)
  | lam {st ev fr n v ty l env val us ui} : Mv p fuel ch is ⟨st, ev, fr, some (.mk 4 n v ty l), env, val, us, ui⟩ (.go ⟨st, ev, fr, none, [], .mk 0 0 (some (.mk 4 n v ty l)) env, us, ui⟩)
  | app {st ev fr n v ty a l env val us ui} (hl : l.length ≤ 1000) : Mv p fuel ch is ⟨st, ev, fr, some (.mk 3 n v ty (a :: l)), env, val, us, ui⟩ (.go ⟨st, ev, ⟨0, some (.mk 3 n v ty (a :: l)), env, vZ⟩ :: fr, some a, env, val, us, ui⟩)
  | lt {st ev fr n v ty a l env val us ui} (hl : l.length ≤ 1000) : Mv p fuel ch is ⟨st, ev, fr, some (.mk 5 n v ty (a :: l)), env, val, us, ui⟩ (.go ⟨st, ev, ⟨2, some (.mk 5 n v ty (a :: l)), env, vZ⟩ :: fr, some a, env, val, us, ui⟩)
  | cs {st ev fr n v ty a l env val us ui} (hl : l.length ≤ 1000) : Mv p fuel ch is ⟨st, ev, fr, some (.mk 6 n v ty (a :: l)), env, val, us, ui⟩ (.go ⟨st, ev, ⟨3, some (.mk 6 n v ty (a :: l)), env, vZ⟩ :: fr, some a, env, val, us, ui⟩)
  | more {st ev fr k n v ty l env val us ui} (hk : k = 7 ∨ k = 8 ∨ k = 10) (hf : fuel ≤ st) : Mv p fuel ch is ⟨st, ev, fr, some (.mk k n v ty l), env, val, us, ui⟩ (.stop ⟨st, ev, fr, some (.mk k n v ty l), env, val, us, ui⟩ 1 0 0 false)
  | want {st ev fr n v ty l env val us ui} (hf : st < fuel) (hu : us = ch.length) : Mv p fuel ch is ⟨st, ev, fr, some (.mk 8 n v ty l), env, val, us, ui⟩ (.stop ⟨st, ev, fr, some (.mk 8 n v ty l), env, val, us, ui⟩ 2 0 v false)
  | wrong {st ev fr n v ty l env val us ui c} (hf : st < fuel) (hc : ch[us]? = some c) (hw : c < 0 ∨ v ≤ c) : Mv p fuel ch is ⟨st, ev, fr, some (.mk 8 n v ty l), env, val, us, ui⟩ (.stop ⟨st, ev, fr, some (.mk 8 n v ty l), env, val, us, ui⟩ 0 0 0 true)
  | fine {st ev fr n v ty l env val us ui c} (hf : st < fuel) (hc : ch[us]? = some c) (h0 : 0 ≤ c) (h1 : c < v) : Mv p fuel ch is ⟨st, ev, fr, some (.mk 8 n v ty l), env, val, us, ui⟩ (.go ⟨st + 1, ev, fr, none, [], .mk c 0 none [], us + 1, ui⟩)
  | full {st ev fr n v ty l env val us ui} (hf : st < fuel) (he : 4096 ≤ ev.length) : Mv p fuel ch is ⟨st, ev, fr, some (.mk 7 n v ty l), env, val, us, ui⟩ (.stop ⟨st, ev, fr, some (.mk 7 n v ty l), env, val, us, ui⟩ 1 0 0 false)
  | event {st ev fr n v ty a l env val us ui} (hf : st < fuel) (he : ev.length < 4096) (hl : l.length ≤ 1000) : Mv p fuel ch is ⟨st, ev, fr, some (.mk 7 n v ty (a :: l)), env, val, us, ui⟩ (.go ⟨st + 1, ev ++ [n], fr, some a, env, val, us, ui⟩)
  | int {st ev fr n v ty l env val us ui} : Mv p fuel ch is ⟨st, ev, fr, some (.mk 9 n v ty l), env, val, us, ui⟩ (.go ⟨st, ev, fr, none, [], .mk n 0 none [], us, ui⟩)
  | awant {st ev fr n v ty l env val us ui} (hf : st < fuel) (hu : ui = is.length) : Mv p fuel ch is ⟨st, ev, fr, some (.mk 10 n v ty l), env, val, us, ui⟩ (.stop ⟨st, ev, fr, some (.mk 10 n v ty l), env, val, us, ui⟩ 2 0 0 false)
  | awrong {st ev fr n v ty l env val us ui x} (hf : st < fuel) (hc : is[ui]? = some x) (hw : x < -1099511627776 ∨ 1099511627776 < x) : Mv p fuel ch is ⟨st, ev, fr, some (.mk 10 n v ty l), env, val, us, ui⟩ (.stop ⟨st, ev, fr, some (.mk 10 n v ty l), env, val, us, ui⟩ 0 0 0 true)
  | afine {st ev fr n v ty l env val us ui x} (hf : st < fuel) (hc : is[ui]? = some x) (h0 : -1099511627776 ≤ x) (h1 : x ≤ 1099511627776) : Mv p fuel ch is ⟨st, ev, fr, some (.mk 10 n v ty l), env, val, us, ui⟩ (.go ⟨st + 1, ev, fr, none, [], .mk x 0 none [], us, ui + 1⟩)
  | add {st ev fr n v ty a l env val us ui} (hl : l.length ≤ 1000) : Mv p fuel ch is ⟨st, ev, fr, some (.mk 11 n v ty (a :: l)), env, val, us, ui⟩ (.go ⟨st, ev, ⟨4, some (.mk 11 n v ty (a :: l)), env, vZ⟩ :: fr, some a, env, val, us, ui⟩)
  | less {st ev fr n v ty a l env val us ui} (hl : l.length ≤ 1000) : Mv p fuel ch is ⟨st, ev, fr, some (.mk 12 n v ty (a :: l)), env, val, us, ui⟩ (.go ⟨st, ev, ⟨5, some (.mk 12 n v ty (a :: l)), env, vZ⟩ :: fr, some a, env, val, us, ui⟩)
  | badd {st ev fr n v ty l env fn env' w wf wl we us ui} (hf : st < fuel) : Mv p fuel ch is ⟨st, ev, ⟨4, some (.mk 11 n v ty l), env, fn⟩ :: fr, none, env', .mk w wf wl we, us, ui⟩ (.go ⟨st + 1, ev, fr, none, [], .mk (IntKind.wrap .i64 (w + n)) 0 none [], us, ui⟩)
  | bless {st ev fr n v ty l env fn env' w wf wl we us ui} (hf : st < fuel) : Mv p fuel ch is ⟨st, ev, ⟨5, some (.mk 12 n v ty l), env, fn⟩ :: fr, none, env', .mk w wf wl we, us, ui⟩ (.go ⟨st + 1, ev, fr, none, [], .mk (if w < n then 1 else 0) 0 none [], us, ui⟩)
  | done {st ev env val us ui} : Mv p fuel ch is ⟨st, ev, [], none, env, val, us, ui⟩ (.stop ⟨st, ev, [], none, env, val, us, ui⟩ 0 (match val with | .mk n _ _ _ => n) 0 false)
  | arg {st ev fr n v ty a b env fn env' val us ui} : Mv p fuel ch is ⟨st, ev, ⟨0, some (.mk 3 n v ty [a, b]), env, fn⟩ :: fr, none, env', val, us, ui⟩ (.go ⟨st, ev, ⟨1, none, [], val⟩ :: fr, some b, env, val, us, ui⟩)
  | bmore {st ev fr k e env fn env' val us ui} (hk : k ≠ 0) (hf : fuel ≤ st) : Mv p fuel ch is ⟨st, ev, ⟨k, e, env, fn⟩ :: fr, none, env', val, us, ui⟩ (.stop ⟨st, ev, ⟨k, e, env, fn⟩ :: fr, none, env', val, us, ui⟩ 1 0 0 false)
  | blet {st ev fr n v ty a b env fn env' val us ui} (hf : st < fuel) : Mv p fuel ch is ⟨st, ev, ⟨2, some (.mk 5 n v ty [a, b]), env, fn⟩ :: fr, none, env', val, us, ui⟩ (.go ⟨st + 1, ev, fr, some b, val :: env, val, us, ui⟩)
  | bcase {st ev fr n v ty l env fn env'} {w : Nat} {wf wl we us ui b} (hf : st < fuel) (hl : l.length ≤ 1000) (hw : l[1 + w]? = some b) :
      Mv p fuel ch is ⟨st, ev, ⟨3, some (.mk 6 n v ty l), env, fn⟩ :: fr, none, env', .mk (w : Int) wf wl we, us, ui⟩ (.go ⟨st + 1, ev, fr, some b, env, .mk (w : Int) wf wl we, us, ui⟩)
  | bfun {st ev fr} {i : Nat} {gl ge env' val us ui d} (hf : st < fuel) (hd : p.defs[i]? = some d) :
      Mv p fuel ch is ⟨st, ev, ⟨1, none, [], .mk 0 ((i : Int) + 1) gl ge⟩ :: fr, none, env', val, us, ui⟩ (.go ⟨st + 1, ev, fr, some d.body, [val], val, us, ui⟩)
  | bclo {st ev fr n v ty b ge env' val us ui} (hf : st < fuel) :
      Mv p fuel ch is ⟨st, ev, ⟨1, none, [], .mk 0 0 (some (.mk 4 n v ty [b])) ge⟩ :: fr, none, env', val, us, ui⟩ (.go ⟨st + 1, ev, fr, some b, val :: ge, val, us, ui⟩)

/-! ### types of values -/
def ScV (sc : List Ty) : Prop := ∀ t ∈ sc, t.V

inductive VT (p : Prog) : Vl → Ty → Prop
  | num {n k : Int} (h0 : 0 ≤ n) (h1 : n < k) : VT p (.mk n 0 none []) (tyF k)
  | int {n : Int} : VT p (.mk n 0 none []) tyI
  | fn {i : Nat} {d : Def} (h : p.defs[i]? = some d) : VT p (.mk 0 ((i : Int) + 1) none []) (.mk 1 0 [d.param, d.result])
  | clo {n v : Int} {ty b : Ty} {a : Expr} {env : List Vl} (sc : List Ty) (hl : env.length = sc.length)
      (he : ∀ (i : Nat) (w : Vl) (t : Ty), env[i]? = some w → sc[i]? = some t → VT p w t) (hv : ScV (ty :: sc)) (ht : tImp p a (ty :: sc).reverse = (b, true)) (hn : a.nodes ≤ 400) (ho : a.ok) :
      VT p (.mk 0 0 (some (.mk 4 n v ty [a])) env) (.mk 1 0 [ty, b])

def EnvT (p : Prog) (env : List Vl) (sc : List Ty) : Prop := env.length = sc.length ∧ (∀ (i : Nat) (w : Vl) (t : Ty), env[i]? = some w → sc[i]? = some t → VT p w t) ∧ ScV sc

theorem EnvT.nil {p : Prog} : EnvT p [] [] := ⟨rfl, by simp, by simp [ScV]⟩
theorem EnvT.cons {p : Prog} {v : Vl} {t : Ty} {env : List Vl} {sc : List Ty} (hv : VT p v t) (ht : t.V) (h : EnvT p env sc) : EnvT p (v :: env) (t :: sc) := by
  refine ⟨by simp [h.1], fun i w u e1 e2 => ?_, fun u hu => ?_⟩
  · cases i with
    | zero => simp at e1 e2; subst e1; subst e2; exact hv
    | succ i => exact h.2.1 i w u (by simpa using e1) (by simpa using e2)
  · rcases List.mem_cons.1 hu with rfl | hu
    · exact ht
    · exact h.2.2 u hu

/-- An expression of this type in this environment. -/
def ET (p : Prog) (e : Expr) (env : List Vl) (t : Ty) : Prop := ∃ sc, EnvT p env sc ∧ tImp p e sc.reverse = (t, true) ∧ e.nodes ≤ 400 ∧ e.ok

/-- Frames that turn a value of type a into one of type T. -/
inductive ST (p : Prog) (T : Ty) : List Fr → Ty → Prop
  | nil : ST p T [] T
  | arg {n v : Int} {ty a b : Ty} {f x : Expr} {env : List Vl} {fn : Vl} {r : List Fr} (hx : ET p x env a) (hr : ST p T r b) : ST p T (⟨0, some (.mk 3 n v ty [f, x]), env, fn⟩ :: r) (.mk 1 0 [a, b])
  | call {a b : Ty} {fn : Vl} {r : List Fr} (ha : a.V) (hf : VT p fn (.mk 1 0 [a, b])) (hr : ST p T r b) : ST p T (⟨1, none, [], fn⟩ :: r) a
  | lt {n v : Int} {ty a b : Ty} {f x : Expr} {env : List Vl} {fn : Vl} {r : List Fr} (hx : ∀ w, VT p w a → ET p x (w :: env) b) (hr : ST p T r b) : ST p T (⟨2, some (.mk 5 n v ty [f, x]), env, fn⟩ :: r) a
  | cs {n v : Int} {ty b : Ty} {f : Expr} {l : List Expr} {env : List Vl} {fn : Vl} {r : List Fr} (hl : l.length ≤ 900) (hx : ∀ x ∈ l, ET p x env b) (hr : ST p T r b) :
      ST p T (⟨3, some (.mk 6 n v ty (f :: l)), env, fn⟩ :: r) (tyF l.length)
  | ad {n v : Int} {ty : Ty} {l : List Expr} {env : List Vl} {fn : Vl} {r : List Fr} (hr : ST p T r tyI) : ST p T (⟨4, some (.mk 11 n v ty l), env, fn⟩ :: r) tyI
  | ls {n v : Int} {ty : Ty} {l : List Expr} {env : List Vl} {fn : Vl} {r : List Fr} (hr : ST p T r (tyF 2)) : ST p T (⟨5, some (.mk 12 n v ty l), env, fn⟩ :: r) tyI

def WT (p : Prog) (T : Ty) (s : MS) : Prop :=
  match s.expr with
  | some e => ∃ t, ET p e s.env t ∧ ST p T s.fr t
  | none => ∃ t, VT p s.val t ∧ ST p T s.fr t

/-- A valid program. -/
structure PT (p : Prog) : Prop where
  defs : ∀ d ∈ p.defs, tImp p d.body [d.param] = (d.result, true) ∧ d.body.nodes ≤ 400 ∧ d.body.ok
  defsV : ∀ d ∈ p.defs, d.param.V ∧ d.result.V
  len : p.defs.length ≤ 1000

/-! ### what the type of an expression says -/
section
variable {p : Prog} {n v : Int} {ty t : Ty} {l : List Expr} {sc : List Ty}

theorem inv_const (h : tImp p (.mk 0 n v ty l) sc = (t, true)) : t = tyF v ∧ 0 ≤ n ∧ n < v := by
  rw [tImp_const] at h
  simp only [Prod.mk.injEq, Bool.and_eq_true, decide_eq_true_eq] at h
  exact ⟨h.1.symm, h.2.1.2, h.2.2⟩
theorem inv_int (h : tImp p (.mk 9 n v ty l) sc = (t, true)) : t = tyI := by
  rw [tImp_int] at h
  simp only [Prod.mk.injEq] at h
  exact h.1.symm
theorem inv_any (h : tImp p (.mk 10 n v ty l) sc = (t, true)) : t = tyI := by
  rw [tImp_any] at h
  simp only [Prod.mk.injEq] at h
  exact h.1.symm
theorem tyI_of {x : Ty} (hV : x.V) (hk : x.kd = 2) : x = tyI := by
  obtain ⟨k, w, m⟩ := x
  have := V_kd2 hV hk
  rw [this.1, this.2]
  simp only [Ty.kd] at hk
  rw [hk]; rfl
theorem inv_add (hd : ∀ d ∈ p.defs, d.param.V ∧ d.result.V) (hs : ScV sc) (h : tImp p (.mk 11 n v ty l) sc = (t, true)) : ∃ a, l = [a] ∧ tImp p a sc = (tyI, true) ∧ t = tyI := by
  by_cases h2 : l.length = 1
  · obtain ⟨a, rfl⟩ := len1 h2
    rw [tImp_add] at h
    split at h
    · obtain ⟨k1, k2, k3, _⟩ := addC_true (k := 11) (n := n) (x := tImp p a sc) (by rw [h])
      rw [k3 rfl] at h
      simp only [Prod.mk.injEq] at h
      exact ⟨a, rfl, Prod.ext (tyI_of (tImp_V p hd a sc hs k1) k2) k1, h.1.symm⟩
    · simp at h
  · rw [tImp_add0 _ _ _ _ _ _ h2] at h; simp at h
theorem inv_less (hd : ∀ d ∈ p.defs, d.param.V ∧ d.result.V) (hs : ScV sc) (h : tImp p (.mk 12 n v ty l) sc = (t, true)) : ∃ a, l = [a] ∧ tImp p a sc = (tyI, true) ∧ t = tyF 2 := by
  by_cases h2 : l.length = 1
  · obtain ⟨a, rfl⟩ := len1 h2
    rw [tImp_less] at h
    split at h
    · obtain ⟨k1, k2, _, k3⟩ := addC_true (k := 12) (n := n) (x := tImp p a sc) (by rw [h])
      rw [k3 (by omega)] at h
      simp only [Prod.mk.injEq] at h
      exact ⟨a, rfl, Prod.ext (tyI_of (tImp_V p hd a sc hs k1) k2) k1, h.1.symm⟩
    · simp at h
  · rw [tImp_less0 _ _ _ _ _ _ h2] at h; simp at h

theorem inv_pick (h : tImp p (.mk 8 n v ty l) sc = (t, true)) : t = tyF v := by
  rw [tImp_pick] at h
  simp only [Prod.mk.injEq] at h
  exact h.1.symm
theorem inv_var (h : tImp p (.mk 1 n v ty l) sc = (t, true)) : 0 ≤ n ∧ n < (sc.length : Int) ∧ sc[sc.length - 1 - n.toNat]? = some t := by
  rw [tImp_var] at h
  split at h
  · rename_i h1
    simp only [Bool.and_eq_true, decide_eq_true_eq] at h1
    split at h
    · rename_i u hu
      simp only [Prod.mk.injEq, and_true] at h
      subst h
      exact ⟨h1.1.2, h1.2, hu⟩
    · simp at h
  · simp at h
theorem inv_fun (h : tImp p (.mk 2 n v ty l) sc = (t, true)) : 0 ≤ n ∧ n < (p.defs.length : Int) ∧ ∃ d, p.defs[n.toNat]? = some d ∧ t = .mk 1 0 [d.param, d.result] := by
  rw [tImp_fun] at h
  split at h
  · rename_i h1
    simp only [Bool.and_eq_true, decide_eq_true_eq] at h1
    split at h
    · rename_i u hu
      simp only [Prod.mk.injEq] at h
      exact ⟨h1.1.2, h1.2, u, hu, h.1.symm⟩
    · simp at h
  · simp at h
theorem inv_event (h : tImp p (.mk 7 n v ty l) sc = (t, true)) : ∃ a, l = [a] ∧ 0 ≤ n ∧ n < (p.events.length : Int) ∧ tImp p a sc = (t, true) := by
  by_cases h2 : l.length = 1
  · obtain ⟨a, rfl⟩ := len1 h2
    rw [tImp_event] at h
    split at h
    · rename_i h1
      simp only [Bool.and_eq_true, decide_eq_true_eq] at h1
      exact ⟨a, rfl, h1.1.2, h1.2, h⟩
    · simp at h
  · rw [tImp_event0 _ _ _ _ _ _ h2] at h; simp at h
theorem inv_app (hd : ∀ d ∈ p.defs, d.param.V ∧ d.result.V) (hs : ScV sc) (h : tImp p (.mk 3 n v ty l) sc = (t, true)) :
    ∃ a b x, l = [a, b] ∧ tImp p a sc = (.mk 1 0 [x, t], true) ∧ tImp p b sc = (x, true) := by
  by_cases h2 : l.length = 2
  · obtain ⟨a, b, rfl⟩ := len2 h2
    rw [tImp_app] at h
    split at h
    · split at h
      · rename_i h1
        simp only [Bool.and_eq_true] at h1
        obtain ⟨x, u, e1, e2, e3⟩ := (appC_V (tImp_V p hd a sc hs h1.1) (by rw [h])).2
        refine ⟨a, b, x, rfl, ?_, ?_⟩
        · rw [h] at e3
          simp only at e3
          subst e3
          rw [← e1, ← h1.1]
        · rw [e2, ← h1.2]
      · simp at h
    · simp at h
  · rw [tImp_app0 _ _ _ _ _ _ h2] at h; simp at h
theorem inv_lam (h : tImp p (.mk 4 n v ty l) sc = (t, true)) : ∃ a b, l = [a] ∧ ty.V ∧ tImp p a (sc ++ [ty]) = (b, true) ∧ t = .mk 1 0 [ty, b] := by
  by_cases h2 : l.length = 1
  · obtain ⟨a, rfl⟩ := len1 h2
    rw [tImp_lam] at h
    split at h
    · rename_i h0
      simp only [Bool.and_eq_true] at h0
      split at h
      · rename_i h1
        simp only [Bool.and_eq_true] at h1
        simp only [Prod.mk.injEq, and_true] at h
        exact ⟨a, _, rfl, h0.2, by rw [← h1.1], h.symm⟩
      · simp at h
    · simp at h
  · rw [tImp_lam0 _ _ _ _ _ _ h2] at h; simp at h
theorem inv_let (h : tImp p (.mk 5 n v ty l) sc = (t, true)) : ∃ a b x, l = [a, b] ∧ tImp p a sc = (x, true) ∧ tImp p b (sc ++ [x]) = (t, true) := by
  by_cases h2 : l.length = 2
  · obtain ⟨a, b, rfl⟩ := len2 h2
    rw [tImp_let] at h
    split at h
    · split at h
      · rename_i h1
        exact ⟨a, b, _, rfl, by rw [← h1], h⟩
      · simp at h
    · simp at h
  · rw [tImp_let0 _ _ _ _ _ _ h2] at h; simp at h
theorem inv_case (hd : ∀ d ∈ p.defs, d.param.V ∧ d.result.V) (hs : ScV sc) (h : tImp p (.mk 6 n v ty l) sc = (t, true)) :
    ∃ a r, l = a :: r ∧ tImp p a sc = (tyF r.length, true) ∧ ∀ x ∈ r, tImp p x sc = (t, true) := by
  rcases l with _ | ⟨a, _ | ⟨b, r⟩⟩
  · rw [tImp_case0 _ _ _ _ _ _ (by simp)] at h; simp at h
  · rw [tImp_case0 _ _ _ _ _ _ (by simp)] at h; simp at h
  · rw [tImp_case] at h
    split at h
    · split at h
      · rename_i h1
        split at h
        · rename_i h2
          simp only [Prod.mk.injEq] at h
          obtain ⟨e1, e2⟩ := h
          rw [e1] at e2
          obtain ⟨c1, c2⟩ := casesC_true e2
          refine ⟨a, b :: r, rfl, ?_, fun x hx => ?_⟩
          · have hV := tImp_V p hd a sc hs h1
            generalize hT : tImp p a sc = T at h1 h2 hV
            obtain ⟨⟨k, w, m⟩, q⟩ := T
            simp only [Ty.kd, Ty.vl] at h2 h1
            have := V_kd0 hV h2.1
            rw [this.2.2, h2.1, h2.2, h1]
            rfl
          · rcases List.mem_cons.1 hx with rfl | hx
            · rw [← e1, ← c1]
            · have := c2 x hx; rw [this.2, ← this.1]
        · simp at h
      · simp at h
    · simp at h
end

/-! ### progress, and that types are kept -/
def Fr.pend : Fr → Nat
  | ⟨k, e, _, _⟩ => if k = 0 then (match e with
    | some (.mk _ _ _ _ (_ :: b :: _)) => 2 + 3 * b.nodes
    | _ => 1) else 1
def pends : List Fr → Nat
  | [] => 0
  | f :: l => f.pend + pends l
def nodesO : Option Expr → Nat
  | none => 0
  | some e => e.nodes
def MS.psi (s : MS) : Nat := pends s.fr + 3 * nodesO s.expr

theorem pend_pos (f : Fr) : 1 ≤ f.pend := by
  obtain ⟨k, e, env, fn⟩ := f
  simp only [Fr.pend]
  split
  · split <;> omega
  · omega
theorem pends_len : ∀ l : List Fr, l.length ≤ pends l
  | [] => by simp
  | f :: l => by have := pends_len l; have := pend_pos f; simp only [pends, List.length_cons]; omega

/-- How a move goes on. -/
def Dec (fuel : Int) (s s' : MS) : Prop := (s'.steps = s.steps ∧ s'.psi < s.psi) ∨ (s'.steps = s.steps + 1 ∧ s.steps < fuel ∧ s'.psi ≤ s.psi + 1200)

theorem rev_snoc {α : Type} (l : List α) (t : α) : (t :: l).reverse = l.reverse ++ [t] := by simp
theorem EnvT.get {p : Prog} {env : List Vl} {sc : List Ty} (h : EnvT p env sc) {n : Int} {t : Ty} (h0 : 0 ≤ n) (h1 : n < (sc.reverse.length : Int)) (h2 : sc.reverse[sc.reverse.length - 1 - n.toNat]? = some t) :
    ∃ w, env[n.toNat]? = some w ∧ VT p w t := by
  have hn : n.toNat < sc.length := by simp at h1; omega
  have : sc[n.toNat]? = some t := by
    rw [List.getElem?_reverse (by simp; omega)] at h2
    rw [← h2]
    congr 1
    simp
    omega
  have hn2 : n.toNat < env.length := by rw [h.1]; exact hn
  exact ⟨env[n.toNat], List.getElem?_eq_getElem hn2, h.2.1 _ _ _ (List.getElem?_eq_getElem hn2) this⟩

theorem ScV.rev {sc : List Ty} (h : ScV sc) : ScV sc.reverse := fun t ht => h t (by simpa using ht)

theorem WT.step {p : Prog} (hp : PT p) {T : Ty} (fuel : Int) (ch is : List Int) {s : MS} (hu : s.used ≤ ch.length) (hui : s.ui ≤ is.length) (h : WT p T s) :
    ∃ o, Mv p fuel ch is s o ∧ ∀ s', o = .go s' → WT p T s' ∧ Dec fuel s s' ∧ s'.used ≤ ch.length ∧ s'.ui ≤ is.length ∧ (s.ev.length ≤ 4096 → s'.ev.length ≤ 4096) ∧ ∀ m ∈ s'.ev, m ∈ s.ev ∨ (0 ≤ m ∧ m < (p.events.length : Int)) := by
  obtain ⟨st, ev, fr, expr, env, val, us, ui⟩ := s
  simp only at hu hui
  cases expr with
  | some e =>
    obtain ⟨t, ⟨sc, henv, hty, hnd, hok⟩, hfr⟩ := h
    obtain ⟨k, n, v, ty, l⟩ := e
    simp only at henv hfr
    have hsV : ScV sc.reverse := henv.2.2.rev
    have hln : l.length ≤ 400 := by have := nodesL_len l; simp only [Expr.nodes] at hnd; omega
    have hol := Expr.oks_mem hok.2.2.2.2.2
    have hsub : ∀ x ∈ l, x.nodes < (Expr.mk k n v ty l).nodes ∧ x.nodes ≤ 400 ∧ x.ok := fun x hx => by
      have := nodes_mem hx
      simp only [Expr.nodes] at hnd ⊢
      exact ⟨by omega, by omega, hol x hx⟩
    have hpos := nodes_pos (.mk k n v ty l)
    rcases kind9 k with rfl | rfl | rfl | rfl | rfl | rfl | rfl | rfl | rfl | hk
    · obtain ⟨rfl, h0, h1⟩ := inv_const hty
      exact ⟨_, .const, fun s' e => by cases e; exact ⟨⟨_, .num h0 h1, hfr⟩, .inl ⟨rfl, by simp only [MS.psi, nodesO]; omega⟩, hu, hui, id, fun _ h => .inl h⟩⟩
    · obtain ⟨h0, h1, h2⟩ := inv_var hty
      obtain ⟨w, hw, hwt⟩ := henv.get h0 h1 h2
      have := hok.2.1
      unfold ir at this
      obtain ⟨n, rfl⟩ := Int.eq_ofNat_of_zero_le h0
      exact ⟨_, .var hw (by omega), fun s' e => by cases e; exact ⟨⟨_, hwt, hfr⟩, .inl ⟨rfl, by simp only [MS.psi, nodesO]; omega⟩, hu, hui, id, fun _ h => .inl h⟩⟩
    · obtain ⟨h0, h1, d, hd, rfl⟩ := inv_fun hty
      have := hp.len
      obtain ⟨n, rfl⟩ := Int.eq_ofNat_of_zero_le h0
      exact ⟨_, .fn h0 (by omega), fun s' e => by cases e; exact ⟨⟨_, .fn hd, hfr⟩, .inl ⟨rfl, by simp only [MS.psi, nodesO]; omega⟩, hu, hui, id, fun _ h => .inl h⟩⟩
    · obtain ⟨a, b, x, rfl, ha, hb⟩ := inv_app hp.defsV hsV hty
      have h1 := hsub a (by simp)
      have h2 := hsub b (by simp)
      refine ⟨_, .app (by simp), fun s' e => ?_⟩
      cases e
      refine ⟨⟨_, ⟨sc, henv, ha, h1.2⟩, .arg ⟨sc, henv, hb, h2.2⟩ hfr⟩, .inl ⟨rfl, ?_⟩, hu, hui, id, fun _ h => .inl h⟩
      simp only [MS.psi, nodesO, pends, Fr.pend, Expr.nodes, Expr.nodesL, if_true]
      omega
    · obtain ⟨a, b, rfl, hv, ha, rfl⟩ := inv_lam hty
      have h1 := hsub a (by simp)
      refine ⟨_, .lam, fun s' e => ?_⟩
      cases e
      refine ⟨⟨_, .clo sc henv.1 henv.2.1 (fun u hu => ?_) (by rw [rev_snoc]; exact ha) h1.2.1 h1.2.2, hfr⟩, .inl ⟨rfl, by simp only [MS.psi, nodesO]; omega⟩, hu, hui, id, fun _ h => .inl h⟩
      rcases List.mem_cons.1 hu with rfl | hu
      · exact hv
      · exact henv.2.2 u hu
    · obtain ⟨a, b, x, rfl, ha, hb⟩ := inv_let hty
      have h1 := hsub a (by simp)
      have h2 := hsub b (by simp)
      have hxV : x.V := by have := tImp_V p hp.defsV a sc.reverse hsV (by rw [ha]); rwa [ha] at this
      refine ⟨_, .lt (by simp), fun s' e => ?_⟩
      cases e
      refine ⟨⟨_, ⟨sc, henv, ha, h1.2⟩, .lt (fun w hw => ⟨x :: sc, henv.cons hw hxV, by rw [rev_snoc]; exact hb, h2.2⟩) hfr⟩, .inl ⟨rfl, ?_⟩, hu, hui, id, fun _ h => .inl h⟩
      simp only [MS.psi, nodesO, pends, Fr.pend, Expr.nodes, Expr.nodesL, show ¬ ((2 : Int) = 0) by omega, if_false]
      omega
    · obtain ⟨a, r, rfl, ha, hr⟩ := inv_case hp.defsV hsV hty
      have h1 := hsub a (by simp)
      refine ⟨_, .cs (by simp at hln ⊢; omega), fun s' e => ?_⟩
      cases e
      refine ⟨⟨_, ⟨sc, henv, ha, h1.2⟩, .cs (by simp at hln; omega) (fun x hx => ⟨sc, henv, hr x hx, (hsub x (by simp [hx])).2⟩) hfr⟩, .inl ⟨rfl, ?_⟩, hu, hui, id, fun _ h => .inl h⟩
      simp only [MS.psi, nodesO, pends, Fr.pend, Expr.nodes, Expr.nodesL, show ¬ ((3 : Int) = 0) by omega, if_false]
      omega
    · obtain ⟨a, rfl, h0, h1, ha⟩ := inv_event hty
      by_cases hf : fuel ≤ st
      · exact ⟨_, .more (.inl rfl) hf, fun s' e => by cases e⟩
      · by_cases he : 4096 ≤ ev.length
        · exact ⟨_, .full (by omega) he, fun s' e => by cases e⟩
        · have h3 := hsub a (by simp)
          refine ⟨_, .event (by omega) (by omega) (by simp), fun s' e => ?_⟩
          cases e
          refine ⟨⟨_, ⟨sc, henv, ha, h3.2⟩, hfr⟩, .inr ⟨rfl, by simp only; omega, ?_⟩, hu, hui, fun _ => by simp; omega, fun m hm => ?_⟩
          rotate_left
          · rcases List.mem_append.1 hm with hm | hm
            · exact .inl hm
            · simp only [List.mem_singleton] at hm; subst hm; exact .inr ⟨h0, h1⟩
          simp only [MS.psi, nodesO]
          omega
    · obtain rfl := inv_pick hty
      by_cases hf : fuel ≤ st
      · exact ⟨_, .more (.inr (.inl rfl)) hf, fun s' e => by cases e⟩
      · by_cases hc : us = ch.length
        · exact ⟨_, .want (by omega) hc, fun s' e => by cases e⟩
        · have hlt : us < ch.length := by omega
          have hg : ch[us]? = some ch[us] := List.getElem?_eq_getElem hlt
          by_cases hw : ch[us] < 0 ∨ v ≤ ch[us]
          · exact ⟨_, .wrong (by omega) hg hw, fun s' e => by cases e⟩
          · refine ⟨_, .fine (by omega) hg (by omega) (by omega), fun s' e => ?_⟩
            cases e
            exact ⟨⟨_, .num (by omega) (by omega), hfr⟩, .inr ⟨rfl, by simp only; omega, by simp only [MS.psi, nodesO]; omega⟩, by simp only; omega, hui, id, fun _ h => .inl h⟩
    · rcases kindI hk with rfl | rfl | rfl | rfl | hk
      · obtain rfl := inv_int hty
        exact ⟨_, .int, fun s' e => by cases e; exact ⟨⟨_, .int, hfr⟩, .inl ⟨rfl, by simp only [MS.psi, nodesO]; omega⟩, hu, hui, id, fun _ h => .inl h⟩⟩
      · obtain rfl := inv_any hty
        by_cases hf : fuel ≤ st
        · exact ⟨_, .more (.inr (.inr rfl)) hf, fun s' e => by cases e⟩
        · by_cases hc : ui = is.length
          · exact ⟨_, .awant (by omega) hc, fun s' e => by cases e⟩
          · have hlt : ui < is.length := by omega
            have hg : is[ui]? = some is[ui] := List.getElem?_eq_getElem hlt
            by_cases hw : is[ui] < -1099511627776 ∨ 1099511627776 < is[ui]
            · exact ⟨_, .awrong (by omega) hg hw, fun s' e => by cases e⟩
            · refine ⟨_, .afine (by omega) hg (by omega) (by omega), fun s' e => ?_⟩
              cases e
              exact ⟨⟨_, .int, hfr⟩, .inr ⟨rfl, by simp only; omega, by simp only [MS.psi, nodesO]; omega⟩, hu, by simp only; omega, id, fun _ h => .inl h⟩
      · obtain ⟨a, rfl, ha, rfl⟩ := inv_add hp.defsV hsV hty
        have h1 := hsub a (by simp)
        refine ⟨_, .add (by simp), fun s' e => ?_⟩
        cases e
        refine ⟨⟨_, ⟨sc, henv, ha, h1.2⟩, .ad hfr⟩, .inl ⟨rfl, ?_⟩, hu, hui, id, fun _ h => .inl h⟩
        simp only [MS.psi, nodesO, pends, Fr.pend, Expr.nodes, Expr.nodesL, show ¬ ((4 : Int) = 0) by omega, if_false]
        omega
      · obtain ⟨a, rfl, ha, rfl⟩ := inv_less hp.defsV hsV hty
        have h1 := hsub a (by simp)
        refine ⟨_, .less (by simp), fun s' e => ?_⟩
        cases e
        refine ⟨⟨_, ⟨sc, henv, ha, h1.2⟩, .ls hfr⟩, .inl ⟨rfl, ?_⟩, hu, hui, id, fun _ h => .inl h⟩
        simp only [MS.psi, nodesO, pends, Fr.pend, Expr.nodes, Expr.nodesL, show ¬ ((5 : Int) = 0) by omega, if_false]
        omega
      · rw [tImp_other _ _ _ _ _ _ _ hk] at hty; simp at hty
  | none =>
    obtain ⟨t, hv, hfr⟩ := h
    simp only at hv hfr
    cases hfr with
    | nil => exact ⟨_, .done, fun s' e => by cases e⟩
    | @arg n v ty a b f x env' fn r hx hr =>
      refine ⟨_, .arg, fun s' e => ?_⟩
      cases e
      refine ⟨⟨_, hx, .call ?_ hv hr⟩, .inl ⟨rfl, ?_⟩, hu, hui, id, fun _ h => .inl h⟩
      · obtain ⟨sc, he, ht, _⟩ := hx
        have := tImp_V p hp.defsV x sc.reverse he.2.2.rev (by rw [ht])
        rwa [ht] at this
      · simp only [MS.psi, nodesO, pends, Fr.pend, if_true, show ¬ ((1 : Int) = 0) by omega, if_false]
        omega
    | @call a b fn r ha hf hr =>
      by_cases hfu : fuel ≤ st
      · exact ⟨_, .bmore (by omega) hfu, fun s' e => by cases e⟩
      · cases hf with
        | @fn i d hd =>
          have hm := List.mem_of_getElem? hd
          have h3 := hp.defs d hm
          refine ⟨_, .bfun (by omega) hd, fun s' e => ?_⟩
          cases e
          refine ⟨⟨_, ⟨[d.param], EnvT.nil.cons hv ha, h3.1, h3.2⟩, hr⟩, .inr ⟨rfl, by simp only; omega, ?_⟩, hu, hui, id, fun _ h => .inl h⟩
          simp only [MS.psi, nodesO, pends]
          have := h3.2.1
          omega
        | @clo n v ty b a env sc hl he hV ht hn ho =>
          try cases hty
          refine ⟨_, .bclo (by omega), fun s' e => ?_⟩
          cases e
          refine ⟨⟨_, ⟨_, EnvT.cons hv ha ⟨hl, he, fun u hu => hV u (by simp [hu])⟩, ht, hn, ho⟩, hr⟩, .inr ⟨rfl, by simp only; omega, ?_⟩, hu, hui, id, fun _ h => .inl h⟩
          simp only [MS.psi, nodesO, pends]
          omega
    | @lt n v ty a b f x env' fn r hx hr =>
      by_cases hfu : fuel ≤ st
      · exact ⟨_, .bmore (by omega) hfu, fun s' e => by cases e⟩
      · refine ⟨_, .blet (by omega), fun s' e => ?_⟩
        cases e
        have h3 := hx val hv
        refine ⟨⟨_, h3, hr⟩, .inr ⟨rfl, by simp only; omega, ?_⟩, hu, hui, id, fun _ h => .inl h⟩
        simp only [MS.psi, nodesO, pends]
        obtain ⟨_, _, _, h4, _⟩ := h3
        omega
    | @cs n v ty b f l env' fn r hl hx hr =>
      by_cases hfu : fuel ≤ st
      · exact ⟨_, .bmore (by omega) hfu, fun s' e => by cases e⟩
      · generalize hk : tyF (l.length : Int) = u at hv
        cases hv with
        | @num w k h0 h1 =>
          unfold tyF at hk
          cases hk
          obtain ⟨w, rfl⟩ := Int.eq_ofNat_of_zero_le h0
          have hw : w < l.length := by omega
          refine ⟨_, .bcase (by omega) (by simp; omega) (b := l[w]) (by rw [Nat.add_comm]; simp [List.getElem?_eq_getElem hw]), fun s' e => ?_⟩
          cases e
          have h3 := hx l[w] (List.getElem_mem hw)
          refine ⟨⟨_, h3, hr⟩, .inr ⟨rfl, by simp only; omega, ?_⟩, hu, hui, id, fun _ h => .inl h⟩
          simp only [MS.psi, nodesO, pends]
          obtain ⟨_, _, _, h4, _⟩ := h3
          omega
        | int => simp [tyF, tyI] at hk
        | fn => simp [tyF] at hk
        | clo => simp [tyF] at hk
    | ad hr =>
      by_cases hfu : fuel ≤ st
      · exact ⟨_, .bmore (by omega) hfu, fun s' e => by cases e⟩
      · obtain ⟨w, wf, wl, we⟩ := val
        refine ⟨_, .badd (by omega), fun s' e => ?_⟩
        cases e
        refine ⟨⟨_, .int, hr⟩, .inr ⟨rfl, by simp only; omega, ?_⟩, hu, hui, id, fun _ h => .inl h⟩
        simp only [MS.psi, nodesO, pends]
        omega
    | ls hr =>
      by_cases hfu : fuel ≤ st
      · exact ⟨_, .bmore (by omega) hfu, fun s' e => by cases e⟩
      · obtain ⟨w, wf, wl, we⟩ := val
        refine ⟨_, .bless (by omega), fun s' e => ?_⟩
        cases e
        refine ⟨⟨_, .num (by split <;> omega) (by split <;> omega), hr⟩, .inr ⟨rfl, by simp only; omega, ?_⟩, hu, hui, id, fun _ h => .inl h⟩
        simp only [MS.psi, nodesO, pends]
        omega

end Go.Ae
