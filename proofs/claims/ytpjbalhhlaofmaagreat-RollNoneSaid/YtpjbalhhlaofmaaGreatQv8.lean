/- Texts for LRollSame,LRollBytes,LRollReads,LRollNone, part 8. -/
import Derived.Test.YtpjbalhhlaofmaaGreatQv7
set_option maxRecDepth 100000
namespace Go.Proofs.YtpjbalhhlaofmaaGreat
open Go.V
theorem Je{x0 x1:Int}{x2:Sl}{x3 x4:Int}{x5 x6 x7:Int}{x8:Sl}{w:Wd}{K:Bool->Pw}(h:af w (.cells (ml x0 x1 x2 x3 x4 x5 x6 x7 x8).toArray 33) fun a d=>∃e:Sl,Cell d ((A0 a).add 8) e.u/\∃g:Bool->Pw,(∃u:Int,Cell d (A0 a) (.int .u32 u)/\If (u == 0) (g true d) (∃z:Int,Cell d ((A0 a).add 1) (.int .i64 z)/\If (decide (z < 1)) (g true d) (∃A:Int,Cell d ((A0 a).add 1) (.int .i64 A)/\If (decide (A > 1000)) (g true d) (∃n:Sl,Cell d ((A0 a).add 2) n.u/\g (((n.len:Int)) != 16) d))))/\∀(_:Env)(s:Bool)(f:Wd),g s f->If s (K false f) (∃k:Bool->Pw,(∃b:Pw,b (aa f)/\∃B:Int,ae b ((A0 a).add 7) (.int .i64 B)/\If (decide (B < 0)) (k true ((aa f))) (∃C:Int,ae b ((A0 a).add 7) (.int .i64 C)/\∃D:Int,ae b ((A0 a).add 1) (.int .i64 D)/\If (decide (C > D)) (k true ((aa f))) (∃E:Int,ae b ((A0 a).add 7) (.int .i64 E)/\jD (ae b) ((A0 a).add 3) fun o p q r=>k (!((E == 0) == (((o == 0) && ((p == 0) && ((q == 0) && (true)))) && ((r == 0) && (true))))) ((aa f)))))/\∀(_:Env)(t:Bool)(c:Wd),k t c->If t (K false c) (∃b:Pw,b (aa c)/\If (decide (((e.len:Int)) < 1)) (K false ((aa c))) (If (decide (((e.len:Int)) > 2)) (K false ((aa c))) (If (((e.len:Int)) == 2) (∃j:Sl,ae b ((A0 a).add 8) j.u/\Ix j.a j.len 0 3 fun F=>∃v:Int,ae b F (.int .u16 v)/\If (v == 65535) (K false ((aa c))) (∃h:Sl,ae b ((A0 a).add 8) h.u/\Ix h.a h.len 1 3 fun G=>∃x:Int,ae b G (.int .u16 x)/\∃i:Sl,ae b ((A0 a).add 8) i.u/\Ix i.a i.len 0 3 fun H=>∃y:Int,ae b H (.int .u16 y)/\Ar .u16 (y+1) fun N=>If (x != N) (K false ((aa c))) (∃l:Sl,Cell (aa c) ((A0 a).add 8) l.u/\bB l (.func (.func 61) #[] #[]) (aa c) fun I L=>K (!I) L))) (∃m:Sl,Cell (aa c) ((A0 a).add 8) m.u/\bB m (.func (.func 61) #[] #[]) (aa c) fun J M=>K (!J) M)))))):pt x0 x1 x2 x3 x4 x5 x6 x7 x8 w K:=cu PK (qz (.seq (qz (.block (.join [(7,.bool)] 134217600 n0 (.cond (qz n0) (.join [(27,.bool)] 281474842492928 (.draw (bY [0,1,2,3,4,5,6,7,8,9,10,11,12,13,14,15,16,17,18,19,20] .fin)) (.cond (qz n0) (.seq (.draw (bY [0,1,2,3,4,5,6,7,8,9,10,11,12,13,14,15,16,17,18,19,20,21,22,23,24,25,26,27,28,29,30,31,32] .fin)) (.cond (qz n0) n0)))))))) (qz n0))) Tryz.func22 h
theorem lT{l:Sl}{each:Value}{w:Wd}{K:Sl->Pw}(h:∃g:Nat->Sl->Int->Pw,(∃s,g s ⟨none,0,0⟩ 0 w)/\∀(_:Env)(p:Nat)(k:Sl)(e:Int)(c:Wd),g p k e c->If (decide (e < ((l.len:Int)))) (Ix l.a l.len e 3 fun h=>Oi (Cell c) h fun i j a=>af c (.cells (Oh 0 0).toArray 76) fun d u=>aP u (A0 d) 3 (tC i j a) fun f=>Oi (Cell f) (A0 d) fun n o b=>aD pz true each [.agg ((tC n o b)).toArray] [yF] (fun m v=>af v (.cells [m.u].toArray 23) fun r x=>bg pz 111 111 k (.slice (some (A0 r)) 1 1) (fun t y=>Ar .i64 (e+1) fun z=>∃q,q < p/\g q t z y) x) cc f) (K k c)):bj l each w K:=cu PK (qz (qz (.seq (qz (.block (.loop [(5,.sl),(10,.int .i64)] 2096288 (qz (.seq (.cond n0 n0) (.seq (.block (qz n0)) n0)))))) (qz n0)))) Tryz.func58 h
theorem EU{x0 x1:Int}{x2:Sl}{x3 x4:Int}{x5 x6 x7:Int}{x8:Sl}{w:Wd}{K:Sl->Int->Pw}(h:af w (.cells (ml x0 x1 x2 x3 x4 x5 x6 x7 x8).toArray 33) fun b c=>dr (Cell c) (A0 b) fun R S l T U V W Y m=>pt R S l T U V W Y m c fun e6 h=>If (!e6) (K ⟨none,0,0⟩ 2 h) (jD (Cell h) ((A0 b).add 3) fun x t u v=>af h (.cells (fh 0 0 0 0).toArray 30) fun i f5=>aP f5 (A0 i) 4 (fh x t u v) fun f6=>af f6 (.cells [.nilFunc].toArray 114) fun d f7=>aQ f7 (A0 d) (.func (.func 52) #[] #[]) fun N=>∃a:Pw,a (aa N)/\∃n:Value,ae a (A0 d) (n)/\∃Z:Int,ae a ((A0 b).add 1) (.int .i64 Z)/\Ar .u64 Z fun d5=>∃a0:Int,ae a ((A0 b).add 7) (.int .i64 a0)/\Ar .u64 a0 fun d6=>∃f:Sl,ae a ((A0 b).add 2) f.u/\∃j:Value,ae a (A0 d) (j)/\∃a1:Int,ae a (A0 i) (.int .u32 a1)/\Ar .u64 a1 fun p=>∃k:Int,ae a ((A0 i).add 1) (.int .u64 k)/\∃a2:Int,ae a ((A0 i).add 2) (.int .u16 a2)/\Ar .u64 a2 fun q=>∃a3:Int,ae a ((A0 i).add 3) (.int .u8 a3)/\Ar .u64 a3 fun r=>∃o:Sl,ae a ((A0 b).add 8) o.u/\Ar .u64 ((o.len:Int)) fun s=>∃e:Sl,ae a ((A0 b).add 8) e.u/\(af (aa N) (.cells (Vg d5 d6).toArray 25) fun Q O=>a O/\(aD pz false n [.slice (some (A0 Q)) 2 2] [yF] (fun g P=>a P/\(fo f P fun F d4=>a d4/\af d4 (.cells (RX p k q r s).toArray 25) fun e0 a4=>a a4/\aD pz false j [.slice (some (A0 e0)) 5 5] [yF] (fun I a5=>a a5/\bj e (.func (.func 59) #[] #[.pointer (some (A0 d))]) a5 fun f2 a6=>a a6/\d_ f2 ⟨none,0,0⟩ a6 fun J a7=>a a7/\af a7 (.cells (RY g F I J).toArray 23) fun e1 a8=>a a8/\aT ⟨some (A0 e1),4,4⟩ a8 fun f3 a9=>a a9/\K f3 0 a9) cc a4)/\(af P (.cells (RX p k q r s).toArray 25) fun e2 b0=>a b0/\fo f b0 fun L b1=>a b1/\aD pz false j [.slice (some (A0 e2)) 5 5] [yF] (fun M b2=>a b2/\bj e (.func (.func 59) #[] #[.pointer (some (A0 d))]) b2 fun f4 b3=>a b3/\d_ f4 ⟨none,0,0⟩ b3 fun y b4=>a b4/\af b4 (.cells (RY g L M y).toArray 23) fun e3 b5=>a b5/\aT ⟨some (A0 e3),4,4⟩ b5 fun e7 b6=>a b6/\K e7 0 b6) cc b1)) cc O)/\(af O (.cells (RX p k q r s).toArray 25) fun e4 b7=>a b7/\aD pz false n [.slice (some (A0 Q)) 2 2] [yF] (fun z b8=>a b8/\fo f b8 fun A b9=>a b9/\aD pz false j [.slice (some (A0 e4)) 5 5] [yF] (fun B c0=>a c0/\bj e (.func (.func 59) #[] #[.pointer (some (A0 d))]) c0 fun e8 c1=>a c1/\d_ e8 ⟨none,0,0⟩ c1 fun C c2=>a c2/\af c2 (.cells (RY z A B C).toArray 23) fun e5 c3=>a c3/\aT ⟨some (A0 e5),4,4⟩ c3 fun e9 c4=>a c4/\K e9 0 c4) cc b9) cc b7))/\(af (aa N) (.cells (RX p k q r s).toArray 25) fun d7 c5=>a c5/\af c5 (.cells (Vg d5 d6).toArray 25) fun d8 c6=>a c6/\aD pz false n [.slice (some (A0 d8)) 2 2] [yF] (fun D c7=>a c7/\fo f c7 fun E c8=>a c8/\aD pz false j [.slice (some (A0 d7)) 5 5] [yF] (fun G c9=>a c9/\bj e (.func (.func 59) #[] #[.pointer (some (A0 d))]) c9 fun f0 d0=>a d0/\d_ f0 ⟨none,0,0⟩ d0 fun H d1=>a d1/\af d1 (.cells (RY D E G H).toArray 23) fun d9 d2=>a d2/\aT ⟨some (A0 d9),4,4⟩ d2 fun f1 d3=>a d3/\K f1 0 d3) cc c8) cc c6))):de x0 x1 x2 x3 x4 x5 x6 x7 x8 w K:=cu PK (qz (.seq (qz (.cond (qz n0) n0)) (qz (qz (.seq (.draw (bY [0,1,2,3,4,5,6,9,10,12,13,14,15,16,17,18,19,20,21,22,23,24,25,26,27,28,29,30,33,34,35] (.two 7 (.two 8 (.two 11 (.one 31 (.one 32 (.one 36 (.one 37 (.one 38 (.one 39 (bY [40,41] .fin))))))) 31 (.one 11 (.one 32 (.one 36 (.one 37 (.one 38 (.one 39 (bY [40,41] .fin)))))))) 31 (.one 8 (.one 11 (.one 32 (.one 36 (.one 37 (.one 38 (.one 39 (bY [40,41] .fin))))))))) 31 (.one 7 (.one 8 (.one 11 (.one 32 (.one 36 (.one 37 (.one 38 (.one 39 (bY [40,41] .fin)))))))))))) n0))))) Tryz.func21 h
theorem Jf{ai:Int}{w:Wd}{K:Sl->Pw}(h:Ar .u64 ai fun c=>dD c 4 w fun a _ b=>K a b):jV ai w K:=cu PK (qz (qz (qz n0))) Tryz.func43 h
theorem xQ{s:Value}{t0 t1:Int}{t2 t3:Int}{x0 x1:Int}{x2:Sl}{x3 x4:Int}{x5 x6 x7:Int}{x8:Sl}{w:Wd}{K:Int->Int->Int->Int->Int->Pw}(h:af w (.cells (fh t0 t1 t2 t3).toArray 30) fun h Z=>af Z (.cells (ml x0 x1 x2 x3 x4 x5 x6 x7 x8).toArray 33) fun d a0=>af a0 (.cells (fh 0 0 0 0).toArray 30) fun a b=>Rk s/\If (nI s) (aP b (A0 a) 4 (fh 0 0 0 0) fun f=>jD (Cell f) (A0 a) fun n o A G=>K n o A G 1 f) (dr (Cell b) (A0 d) fun H I j J L M p q i=>de H I j J L M p q i b fun l R m=>If (R != 0) (aP m (A0 a) 4 (fh 0 0 0 0) fun g=>jD (Cell g) (A0 a) fun r t u v=>K r t u v R g) (∃c:Pw,c (aa m)/\jD (ae c) (A0 h) fun x y z B=>∃S:Int,ae c (A0 d) (.int .u32 S)/\jV S (aa m) fun k T=>c T/\af T (.cells (Iw k l false).toArray 52) fun W U=>c U/\gq s 0 x y z B ⟨some (A0 W),1,1⟩ U fun N O P Q Y V=>c V/\aP V (A0 a) 4 (fh N O P Q) fun e=>c e/\jD (Cell e) (A0 a) fun C D E F=>K C D E F Y e))):fi s t0 t1 t2 t3 x0 x1 x2 x3 x4 x5 x6 x7 x8 w K:=cu PK (qz (.seq (qz (.cond (qz n0) n0)) (qz (.seq (qz (.cond (qz n0) n0)) (.seq (.draw (bY [0,1,2,3,5] (.one 4 (.take 6 (.one 7 (.one 8 (bY [9,10] (.one 11 (.take 12 .fin))))))))) n0))))) Tryz.func13 h
theorem EV{ai:Int}{w:Wd}{K:Int->Int->Sl->Int->Int->Int->Int->Int->Sl->Pw}(h:af w (.cells (dw 0 0 0 0 0 0 0).toArray 33) fun a q=>∃b:Pw,b (aa q)/\(FZ (aa q) 5 [.int .u8 0] 1 16 16 fun f U=>b U/\FZ U 5 [.int .u8 0] 1 32 32 fun p V=>b V/\af V (.cells (tC 1 2 p).toArray 76) fun s W=>b W/\aP W (A0 a) 9 [.int .u32 ai,.int .i64 9, f.u,.int .u32 0,.int .u64 0,.int .u16 0,.int .u8 0,.int .i64 0,.slice (some (A0 s)) 1 1] fun d=>b d/\dr (Cell d) (A0 a) fun v x l M N O P Q o=>K v x l M N O P Q o d)/\(FZ (aa q) 5 [.int .u8 0] 1 32 32 fun g r=>b r/\(FZ r 5 [.int .u8 0] 1 16 16 fun h Y=>b Y/\af Y (.cells (tC 1 2 g).toArray 76) fun t Z=>b Z/\aP Z (A0 a) 9 [.int .u32 ai,.int .i64 9, h.u,.int .u32 0,.int .u64 0,.int .u16 0,.int .u8 0,.int .i64 0,.slice (some (A0 t)) 1 1] fun e=>b e/\dr (Cell e) (A0 a) fun R y j z A B C D k=>K R y j z A B C D k e)/\(af r (.cells (tC 1 2 g).toArray 76) fun u S=>b S/\FZ S 5 [.int .u8 0] 1 16 16 fun i T=>b T/\aP T (A0 a) 9 [.int .u32 ai,.int .i64 9, i.u,.int .u32 0,.int .u64 0,.int .u16 0,.int .u8 0,.int .i64 0,.slice (some (A0 u)) 1 1] fun c=>b c/\dr (Cell c) (A0 a) fun E F m G H I J L n=>K E F m G H I J L n c))):gp ai w K:=cu PK (qz (.seq (.draw (.take 0 (.two 1 (.one 2 (.take 3 (.one 4 (.take 5 (.one 6 .fin))))) 2 (.take 3 (.two 1 (.one 4 (.take 5 (.one 6 .fin))) 4 (.one 1 (.take 5 (.one 6 .fin)))))))) n0)) Tryz.func14 h
theorem wN{r:Option Addr}{w:Wd}{K:Bool->Pw}(h:If (!(Option.isNone r)) (Nn r fun b=>∃a:Int,Cell w (b.add 2) (.int .i64 a)/\K (a == 0) w) (K false w)):gr r w K:=cu PK (qz (qz n0)) Tryz.func71 h
theorem qR{r:Option Addr}{Iy:Int}{w:Wd}{K:Int->Int->Int->Pw}(h:∃g:Nat->Int->Int->Pw,(∃t,g t 0 0 w)/\∀(_:Env)(j:Nat)(l:Int)(a:Int)(b:Wd),g j l a b->Ar .i64 (Iy+a) fun u=>Nn r fun p=>∃f:Sl,Cell b p f.u/\If (decide (u≥((f.len:Int)))) (K 0 0 4 b) (Nn r fun q=>∃c:Sl,Cell b q c.u/\Ar .i64 (Iy+a) fun v=>Ix c.a c.len v 1 fun s=>∃d:Int,Cell b s (.int .u8 d)/\∃i:Pw,(If (a == 9) (If (decide (d > 1)) (K 0 0 6 b) (i b)) (i b))/\∀(_:Env)(e:Wd),i e->Nm (nH .and .u8 d 127) fun x=>Ar .u64 x fun y=>Ar .i64 (7 * a) fun n=>(0:Int)<=n/\Ar .u64 (y * 2 ^ min (Int.toNat n) (IntKind.bits .u64)) fun z=>Nm (nH .or .u64 l z) fun o=>If (decide (d > 127)) (Ar .i64 (a+1) fun A=>∃k,k < j/\g k o A e) (∃h:Pw,(If (d == 0) (If (decide (a > 0)) (K 0 0 5 e) (h e)) (h e))/\∀(_:Env)(m:Wd),h m->Ar .i64 (Iy+a) fun B=>Ar .i64 (B+1) fun C=>K o C 0 m))):ed r Iy w K:=cu PK (qz (qz (qz (.block (.loop [(7,.int .u64),(8,.int .i64)] 144115188075855856 (.seq (.block (.seq (qz (.cond (qz n0) n0)) (qz (.join [] 67645735024 (qz (.cond (qz n0) n0)) (qz (.seq (qz (.cond n0 n0)) (.join [] 4433230883192944 (qz (.cond (qz n0) n0)) (qz n0)))))))) n0)))))) Tryz.func72 h
theorem vi{r:Option Addr}{w:Wd}{K:Int->Pw}(h:gr r w fun j a=>If (!j) (K 0 a) (Nn r fun e=>∃c:Int,Cell a (e.add 1) (.int .i64 c)/\ed r c a fun h i b d=>If (b != 0) (Nn r fun f=>aQ d (f.add 2) (.int .i64 b) fun k=>K 0 k) (Nn r fun g=>aQ d (g.add 1) (.int .i64 i) fun l=>K h l))):aX r w K:=cu PK (qz (.seq (qz (.cond (qz n0) n0)) (qz (.seq (qz (.cond (qz (qz n0)) n0)) (qz (qz n0)))))) Tryz.func34 h
theorem Ct{most:Int}{c0:Addr}{w:Wd}{K:Int->Pw}(h:∃b:Option Addr,Cell w c0 (.pointer b)/\aX b w fun a c=>If (decide (a > most)) (Ar .u64 (most+1) fun d=>K d c) (K a c)):nM most c0 w K:=cu PK (qz (qz (.seq (qz (.cond (qz n0) n0)) (qz n0)))) Tryz.func33 h
theorem eF{most:Int}{c0:Addr}{w:Wd}{rd:Bool}{K:Int->Pw}{X:PX}(h:nM most c0 w K):aD pz rd (.func (.func 33) #[] #[.pointer (some c0)]) [.int .u64 most] [yE] K X w:=tA h
theorem wO{b:Sl}{w:Wd}{K:Option Addr->Pw}(h:af w (.cells [].toArray 5) fun c e=>bg pz 23 23 ⟨some (A0 c),0,0⟩ b.u (fun a f=>af f (.cells (YN a 0 0).toArray 136) fun d g=>K (some (A0 d)) g) e):jU b w K:=cu PK (qz (qz n0)) Tryz.func32 h
theorem tJ{r:Option Addr}{most:Int}{w:Wd}{K:Sl->Pw}(h:gr r w fun A k=>If (!A) (K ⟨none,0,0⟩ k) (Nn r fun s=>∃m:Int,Cell k (s.add 1) (.int .i64 m)/\ed r m k fun g h i d=>∃a:Int->Pw,(If (i != 0) (a i d) (Nm (gV most 0) fun D=>Ar .u64 D fun E=>If (decide (g > E)) (a 3 d) (Nn r fun t=>∃e:Sl,Cell d t e.u/\Ar .i64 (((e.len:Int)) - h) fun F=>Ar .u64 F fun G=>If (decide (g > G)) (a 4 d) (a i d))))/\∀(_:Env)(f:Int)(l:Wd),a f l->If (f != 0) (Nn r fun u=>aQ l (u.add 2) (.int .i64 f) fun C=>K ⟨none,0,0⟩ C) (Ar .i64 g fun H=>Ar .i64 (h+H) fun I=>Nn r fun v=>aQ l (v.add 1) (.int .i64 I) fun o=>∃b:Pw,b (aa o)/\Nn r fun x=>∃c:Sl,ae b x c.u/\Nn r fun y=>∃n:Int,ae b (y.add 1) (.int .i64 n)/\Cut c h n (((c.cap:Nat):Int)) 1 fun j=>af (aa o) (.cells [].toArray 5) fun z p=>b p/\bg pz 23 23 ⟨some (A0 z),0,0⟩ j.u (fun B q=>b q/\K B q) p))):aY r most w K:=cu PK (qz (.seq (qz (.cond (qz n0) n0)) (qz (.join [(7,.int .i64)] 2199021158528 (.block (qz (.cond n0 (qz (.cond n0 (qz (.cond n0 n0))))))) (.seq (qz (.cond (qz (qz n0)) n0)) (qz (.seq (.draw (bY [1,2,3,4,5,6,7,8,9,10] (.one 0 (.one 11 (.take 12 .fin))))) n0))))))) Tryz.func35 h
theorem tK{r:Option Addr}{w:Wd}{K:Int->Int->Pw}(h:If (Option.isNone r) (K 1 0 w) (∃f:Pw,(∃d:Bool->Pw,(∃a:Pw,a (aa w)/\Nn r fun m=>∃h:Int,ae a (m.add 2) (.int .i64 h)/\If (h == 0) (Nn r fun n=>∃i:Int,ae a (n.add 1) (.int .i64 i)/\Nn r fun o=>∃b:Sl,ae a o b.u/\d (decide (i < ((b.len:Int)))) ((aa w))) (d false ((aa w))))/\∀(_:Env)(g:Bool)(c:Wd),d g c->If g (∃a:Pw,a (aa c)/\Nn r fun p=>∃j:Int,ae a (p.add 1) (.int .i64 j)/\K 5 j ((aa c))) (f c))/\∀(_:Env)(e:Wd),f e->∃a:Pw,a (aa e)/\Nn r fun q=>∃k:Int,ae a (q.add 2) (.int .i64 k)/\Nn r fun s=>∃l:Int,ae a (s.add 1) (.int .i64 l)/\K k l ((aa e)))):cK r w K:=cu PK (qz (.seq (qz (.cond (qz n0) n0)) (.join [] 134217676 (.join [(22,.bool)] 8388544 (.draw (bY [0,1,2,3,4,5,6,7,8,9,10,11,12,13,14,15,16] .fin)) (.cond (.seq (.draw (bY [0,1,2,3,4,5] .fin)) n0) n0)) (.seq (.draw (bY [0,1,2,3,4,5,6,7,8,9] .fin)) n0)))) Tryz.func36 h
theorem Cu{a b:Sl}{w:Wd}{K:Bool->Pw}(h:iR (Cell w) a fun c=>iR (Cell w) b fun d=>K (ByteArray.toList c == ByteArray.toList d) w):df a b w K:=cu PK (qz (qz n0)) Tryz.func37 h
theorem GW{ai:Int}{b:Sl}{w:Wd}{K:Int->Int->Sl->Int->Int->Int->Int->Int->Sl->Int->Pw}(h:af w (.cells (dw 0 0 0 0 0 0 0).toArray 33) fun a L5=>jU b L5 fun F9 M2=>af M2 (.cells [.pointer none].toArray 70) fun d M4=>aQ M4 (A0 d) (.pointer F9) fun i8=>∃c:Pw,c (aa i8)/\∃Y:Option Addr,ae c (A0 d) (.pointer Y)/\(aD pz false (.func (.func 33) #[] #[.pointer (some (A0 d))]) [.int .u64 1000] [yE] (fun H2 i9=>c i9/\Ar .i64 H2 fun W=>(aD pz false (.func (.func 33) #[] #[.pointer (some (A0 d))]) [.int .u64 1000] [yE] (fun I0 j0=>c j0/\Ar .i64 I0 fun e7=>(aY Y 16 j0 fun U C7=>c C7/\af C7 (.cells (dw 0 0 0 0 0 0 0).toArray 33) fun e D1=>c D1/\aP D1 (A0 e) 9 (RZ ai W U 0 0 0 0 e7) fun D8=>c D8/\aD pz true (.func (.func 33) #[] #[.pointer (some (A0 d))]) [.int .u64 4294967295] [yE] (fun J5 A1=>Ar .u32 J5 fun E7=>∃y4:Option Addr,Cell A1 (A0 d) (.pointer y4)/\aX y4 A1 fun y3 L6=>aD pz true (.func (.func 33) #[] #[.pointer (some (A0 d))]) [.int .u64 65535] [yE] (fun L1 L7=>Ar .u16 L1 fun F2=>aP L7 ((A0 e).add 3) 3 (iT E7 y3 F2) fun L8=>aD pz true (.func (.func 33) #[] #[.pointer (some (A0 d))]) [.int .u64 255] [yE] (fun L2 L9=>Ar .u8 L2 fun P8=>aQ L9 (((A0 e).add 3).add 3) (.int .u8 P8) fun M0=>aD pz true (.func (.func 33) #[] #[.pointer (some (A0 d))]) [.int .u64 2] [yE] (fun L3 M1=>Nm (gm L3 2) fun P9=>∃i:Nat->Int->Pw,(∃R,i R 0 M1)/\∀(_:Env)(x2:Nat)(i4:Int)(Z:Wd),i x2 i4 Z->If (decide (i4 < P9)) (∃c:Pw,c (aa Z)/\∃e5:Sl,ae c ((A0 e).add 8) e5.u/\∃z4:Option Addr,ae c (A0 d) (.pointer z4)/\∃z5:Option Addr,ae c (A0 d) (.pointer z5)/\aD pz false (.func (.func 33) #[] #[.pointer (some (A0 d))]) [.int .u64 65535] [yE] (fun L4 A3=>c A3/\Ar .u16 L4 fun Q0=>aX z4 A3 fun H3 A4=>c A4/\aY z5 32 A4 fun h6 A5=>c A5/\af A5 (.cells (tC Q0 H3 h6).toArray 76) fun F6 A6=>c A6/\bg pz 31 31 e5 (.slice (some (A0 F6)) 1 1) (fun i0 A7=>c A7/\aQ A7 ((A0 e).add 8) i0.u fun M3=>Ar .u64 (i4+1) fun Q1=>∃x6,x6 < x2/\i x6 Q1 M3) A6) cc ((aa Z))) (∃z6:Option Addr,Cell Z (A0 d) (.pointer z6)/\cK z6 Z fun G0 _ k=>If (G0 != 0) (aP k (A0 a) 9 (dw 0 0 0 0 0 0 0) fun v=>dr (Cell v) (A0 a) fun j1 j2 c5 s5 t1 t6 u5 v4 d9=>K j1 j2 c5 s5 t1 t6 u5 v4 d9 5 v) (dr (Cell k) (A0 e) fun x0 j3 a5 k9 l8 m7 n2 n9 b7=>de x0 j3 a5 k9 l8 m7 n2 n9 b7 k fun G1 G8 A8=>If (G8 != 0) (aP A8 (A0 a) 9 (dw 0 0 0 0 0 0 0) fun x=>dr (Cell x) (A0 a) fun p5 q4 c6 r3 r9 s0 s1 s2 c9=>K p5 q4 c6 r3 r9 s0 s1 s2 c9 5 x) (df b G1 A8 fun H4 l=>If (!H4) (aP l (A0 a) 9 (dw 0 0 0 0 0 0 0) fun y=>dr (Cell y) (A0 a) fun s3 s4 d0 s6 s7 s8 s9 t0 d1=>K s3 s4 d0 s6 s7 s8 s9 t0 d1 5 y) (dr (Cell l) (A0 e) fun g2 g3 N g4 g5 g6 g7 g8 O=>aP l (A0 a) 9 (ml g2 g3 N g4 g5 g6 g7 g8 O) fun z=>dr (Cell z) (A0 a) fun t2 t3 d2 t4 t5 t7 t8 t9 d3=>K t2 t3 d2 t4 t5 t7 t8 t9 d3 0 z))))) cc M0) cc L8) cc L6) cc D8)/\(af j0 (.cells (dw 0 0 0 0 0 0 0).toArray 33) fun f A9=>c A9/\aY Y 16 A9 fun S B0=>c B0/\aP B0 (A0 f) 9 (RZ ai W S 0 0 0 0 e7) fun B1=>c B1/\aD pz true (.func (.func 33) #[] #[.pointer (some (A0 d))]) [.int .u64 4294967295] [yE] (fun H5 B2=>Ar .u32 H5 fun F3=>∃z7:Option Addr,Cell B2 (A0 d) (.pointer z7)/\aX z7 B2 fun y0 M5=>aD pz true (.func (.func 33) #[] #[.pointer (some (A0 d))]) [.int .u64 65535] [yE] (fun H6 M6=>Ar .u16 H6 fun F4=>aP M6 ((A0 f).add 3) 3 (iT F3 y0 F4) fun M7=>aD pz true (.func (.func 33) #[] #[.pointer (some (A0 d))]) [.int .u64 255] [yE] (fun H7 M8=>Ar .u8 H7 fun O6=>aQ M8 (((A0 f).add 3).add 3) (.int .u8 O6) fun M9=>aD pz true (.func (.func 33) #[] #[.pointer (some (A0 d))]) [.int .u64 2] [yE] (fun H8 N0=>Nm (gm H8 2) fun O7=>∃i:Nat->Int->Pw,(∃R,i R 0 N0)/\∀(_:Env)(x3:Nat)(i5:Int)(a0:Wd),i x3 i5 a0->If (decide (i5 < O7)) (∃c:Pw,c (aa a0)/\∃e6:Sl,ae c ((A0 f).add 8) e6.u/\∃z8:Option Addr,ae c (A0 d) (.pointer z8)/\∃z9:Option Addr,ae c (A0 d) (.pointer z9)/\aD pz false (.func (.func 33) #[] #[.pointer (some (A0 d))]) [.int .u64 65535] [yE] (fun H9 B3=>c B3/\Ar .u16 H9 fun O8=>aX z8 B3 fun I1 B4=>c B4/\aY z9 32 B4 fun h7 B5=>c B5/\af B5 (.cells (tC O8 I1 h7).toArray 76) fun F7 B6=>c B6/\bg pz 31 31 e6 (.slice (some (A0 F7)) 1 1) (fun i1 B7=>c B7/\aQ B7 ((A0 f).add 8) i1.u fun N1=>Ar .u64 (i5+1) fun O9=>∃x7,x7 < x3/\i x7 O9 N1) B6) cc ((aa a0))) (∃y5:Option Addr,Cell a0 (A0 d) (.pointer y5)/\cK y5 a0 fun G2 _ m=>If (G2 != 0) (aP m (A0 a) 9 (dw 0 0 0 0 0 0 0) fun A=>dr (Cell A) (A0 a) fun u0 u1 d4 u2 u3 u4 u6 u7 d5=>K u0 u1 d4 u2 u3 u4 u6 u7 d5 5 A) (dr (Cell m) (A0 f) fun u8 u9 d6 v0 v1 v2 v3 v5 d7=>de u8 u9 d6 v0 v1 v2 v3 v5 d7 m fun G3 G9 B8=>If (G9 != 0) (aP B8 (A0 a) 9 (dw 0 0 0 0 0 0 0) fun B=>dr (Cell B) (A0 a) fun v6 v7 d8 v8 v9 w0 w1 w2 e0=>K v6 v7 d8 v8 v9 w0 w1 w2 e0 5 B) (df b G3 B8 fun I2 n=>If (!I2) (aP n (A0 a) 9 (dw 0 0 0 0 0 0 0) fun C=>dr (Cell C) (A0 a) fun w3 w4 e1 w5 w6 w7 w8 w9 e2=>K w3 w4 e1 w5 w6 w7 w8 w9 e2 5 C) (dr (Cell n) (A0 f) fun g9 h0 P h1 h2 h3 h4 h5 Q=>aP n (A0 a) 9 (ml g9 h0 P h1 h2 h3 h4 h5 Q) fun D=>dr (Cell D) (A0 a) fun x1 j4 a3 j5 j6 j7 j8 j9 a4=>K x1 j4 a3 j5 j6 j7 j8 j9 a4 0 D))))) cc M9) cc M7) cc M5) cc B1)) cc i9)/\(af i9 (.cells (dw 0 0 0 0 0 0 0).toArray 33) fun g B9=>c B9/\aD pz false (.func (.func 33) #[] #[.pointer (some (A0 d))]) [.int .u64 1000] [yE] (fun I3 C0=>c C0/\Ar .i64 I3 fun E4=>aY Y 16 C0 fun T C1=>c C1/\aP C1 (A0 g) 9 (RZ ai W T 0 0 0 0 E4) fun C2=>c C2/\aD pz true (.func (.func 33) #[] #[.pointer (some (A0 d))]) [.int .u64 4294967295] [yE] (fun I4 C3=>Ar .u32 I4 fun E5=>∃y6:Option Addr,Cell C3 (A0 d) (.pointer y6)/\aX y6 C3 fun y1 N2=>aD pz true (.func (.func 33) #[] #[.pointer (some (A0 d))]) [.int .u64 65535] [yE] (fun I5 N3=>Ar .u16 I5 fun E6=>aP N3 ((A0 g).add 3) 3 (iT E5 y1 E6) fun N4=>aD pz true (.func (.func 33) #[] #[.pointer (some (A0 d))]) [.int .u64 255] [yE] (fun I6 N5=>Ar .u8 I6 fun P0=>aQ N5 (((A0 g).add 3).add 3) (.int .u8 P0) fun N6=>aD pz true (.func (.func 33) #[] #[.pointer (some (A0 d))]) [.int .u64 2] [yE] (fun I7 N7=>Nm (gm I7 2) fun P1=>∃i:Nat->Int->Pw,(∃R,i R 0 N7)/\∀(_:Env)(x4:Nat)(i6:Int)(a1:Wd),i x4 i6 a1->If (decide (i6 < P1)) (∃c:Pw,c (aa a1)/\∃e3:Sl,ae c ((A0 g).add 8) e3.u/\∃y7:Option Addr,ae c (A0 d) (.pointer y7)/\∃y8:Option Addr,ae c (A0 d) (.pointer y8)/\aD pz false (.func (.func 33) #[] #[.pointer (some (A0 d))]) [.int .u64 65535] [yE] (fun I8 C4=>c C4/\Ar .u16 I8 fun P2=>aX y7 C4 fun I9 C5=>c C5/\aY y8 32 C5 fun h8 C6=>c C6/\af C6 (.cells (tC P2 I9 h8).toArray 76) fun F8 C8=>c C8/\bg pz 31 31 e3 (.slice (some (A0 F8)) 1 1) (fun i2 C9=>c C9/\aQ C9 ((A0 g).add 8) i2.u fun N8=>Ar .u64 (i6+1) fun P3=>∃x8,x8 < x4/\i x8 P3 N8) C8) cc ((aa a1))) (∃y9:Option Addr,Cell a1 (A0 d) (.pointer y9)/\cK y9 a1 fun G4 _ o=>If (G4 != 0) (aP o (A0 a) 9 (dw 0 0 0 0 0 0 0) fun E=>dr (Cell E) (A0 a) fun k0 k1 a6 k2 k3 k4 k5 k6 a7=>K k0 k1 a6 k2 k3 k4 k5 k6 a7 5 E) (dr (Cell o) (A0 g) fun k7 k8 a8 l0 l1 l2 l3 l4 a9=>de k7 k8 a8 l0 l1 l2 l3 l4 a9 o fun G5 H0 D0=>If (H0 != 0) (aP D0 (A0 a) 9 (dw 0 0 0 0 0 0 0) fun F=>dr (Cell F) (A0 a) fun l5 l6 b0 l7 l9 m0 m1 m2 b1=>K l5 l6 b0 l7 l9 m0 m1 m2 b1 5 F) (df b G5 D0 fun J0 p=>If (!J0) (aP p (A0 a) 9 (dw 0 0 0 0 0 0 0) fun G=>dr (Cell G) (A0 a) fun m3 m4 b2 m5 m6 m8 m9 n1 b3=>K m3 m4 b2 m5 m6 m8 m9 n1 b3 5 G) (dr (Cell p) (A0 g) fun e8 e9 I f0 f1 f2 f3 f4 J=>aP p (A0 a) 9 (ml e8 e9 I f0 f1 f2 f3 f4 J) fun H=>dr (Cell H) (A0 a) fun n3 n4 b4 n5 n6 n7 n8 o0 b5=>K n3 n4 b4 n5 n6 n7 n8 o0 b5 0 H))))) cc N6) cc N4) cc N2) cc C2) cc B9)) cc ((aa i8)))/\(af (aa i8) (.cells (dw 0 0 0 0 0 0 0).toArray 33) fun h D2=>c D2/\aD pz false (.func (.func 33) #[] #[.pointer (some (A0 d))]) [.int .u64 1000] [yE] (fun J1 D3=>c D3/\Ar .i64 J1 fun E8=>aD pz false (.func (.func 33) #[] #[.pointer (some (A0 d))]) [.int .u64 1000] [yE] (fun J2 D4=>c D4/\Ar .i64 J2 fun E9=>aY Y 16 D4 fun V D5=>c D5/\aP D5 (A0 h) 9 (RZ ai E8 V 0 0 0 0 E9) fun D6=>c D6/\aD pz true (.func (.func 33) #[] #[.pointer (some (A0 d))]) [.int .u64 4294967295] [yE] (fun J3 D7=>Ar .u32 J3 fun F0=>∃z0:Option Addr,Cell D7 (A0 d) (.pointer z0)/\aX z0 D7 fun y2 N9=>aD pz true (.func (.func 33) #[] #[.pointer (some (A0 d))]) [.int .u64 65535] [yE] (fun J4 O0=>Ar .u16 J4 fun F1=>aP O0 ((A0 h).add 3) 3 (iT F0 y2 F1) fun O1=>aD pz true (.func (.func 33) #[] #[.pointer (some (A0 d))]) [.int .u64 255] [yE] (fun J6 O2=>Ar .u8 J6 fun P4=>aQ O2 (((A0 h).add 3).add 3) (.int .u8 P4) fun O3=>aD pz true (.func (.func 33) #[] #[.pointer (some (A0 d))]) [.int .u64 2] [yE] (fun J7 O4=>Nm (gm J7 2) fun P5=>∃i:Nat->Int->Pw,(∃R,i R 0 O4)/\∀(_:Env)(x5:Nat)(i7:Int)(a2:Wd),i x5 i7 a2->If (decide (i7 < P5)) (∃c:Pw,c (aa a2)/\∃e4:Sl,ae c ((A0 h).add 8) e4.u/\∃z1:Option Addr,ae c (A0 d) (.pointer z1)/\∃z2:Option Addr,ae c (A0 d) (.pointer z2)/\aD pz false (.func (.func 33) #[] #[.pointer (some (A0 d))]) [.int .u64 65535] [yE] (fun J8 D9=>c D9/\Ar .u16 J8 fun P6=>aX z1 D9 fun J9 E0=>c E0/\aY z2 32 E0 fun h9 E1=>c E1/\af E1 (.cells (tC P6 J9 h9).toArray 76) fun F5 E2=>c E2/\bg pz 31 31 e4 (.slice (some (A0 F5)) 1 1) (fun i3 E3=>c E3/\aQ E3 ((A0 h).add 8) i3.u fun O5=>Ar .u64 (i7+1) fun P7=>∃x9,x9 < x5/\i x9 P7 O5) E2) cc ((aa a2))) (∃z3:Option Addr,Cell a2 (A0 d) (.pointer z3)/\cK z3 a2 fun G6 _ q=>If (G6 != 0) (aP q (A0 a) 9 (dw 0 0 0 0 0 0 0) fun r=>dr (Cell r) (A0 a) fun o1 o2 b6 o3 o4 o5 o6 o7 b8=>K o1 o2 b6 o3 o4 o5 o6 o7 b8 5 r) (dr (Cell q) (A0 h) fun o8 o9 b9 p0 p1 p2 p3 p4 c0=>de o8 o9 b9 p0 p1 p2 p3 p4 c0 q fun G7 H1 A2=>If (H1 != 0) (aP A2 (A0 a) 9 (dw 0 0 0 0 0 0 0) fun s=>dr (Cell s) (A0 a) fun p6 p7 c1 p8 p9 q0 q1 q2 c2=>K p6 p7 c1 p8 p9 q0 q1 q2 c2 5 s) (df b G7 A2 fun L0 j=>If (!L0) (aP j (A0 a) 9 (dw 0 0 0 0 0 0 0) fun t=>dr (Cell t) (A0 a) fun q3 q5 c3 q6 q7 q8 q9 r0 c4=>K q3 q5 c3 q6 q7 q8 q9 r0 c4 5 t) (dr (Cell j) (A0 h) fun f5 f6 L f7 f8 f9 g0 g1 M=>aP j (A0 a) 9 (ml f5 f6 L f7 f8 f9 g0 g1 M) fun u=>dr (Cell u) (A0 a) fun r1 r2 c7 r4 r5 r6 r7 r8 c8=>K r1 r2 c7 r4 r5 r6 r7 r8 c8 0 u))))) cc O3) cc O1) cc N9) cc D6) cc D3) cc D2)):fW ai b w K:=cu PK (qz (qz (qz (.seq (.draw (bY [0,1,4,7] (.two 2 (.take 3 (.two 5 (.take 6 (.two 8 (.take 9 (.one 10 (.one 11 .fin))) 10 (.one 8 (.take 9 (.one 11 .fin))))) 10 (.one 5 (.take 6 (.one 8 (.take 9 (.one 11 .fin))))))) 10 (.one 2 (.take 3 (.one 5 (.take 6 (.one 8 (.take 9 (.one 11 .fin)))))))))) (qz (qz (qz (.seq (qz (.block (.loop [(47,.int .u64)] 9223231299366420480 (qz (.seq (.cond n0 n0) (.seq (.block (.draw (bY [0,1,2,5,7] (.one 3 (.take 4 (.one 6 (.one 8 (.take 9 (.one 10 (.one 11 (.take 12 (.last 13)))))))))))) n0)))))) (.seq (qz (qz (.cond (qz n0) n0))) (.seq (qz (qz (.cond (qz n0) n0))) (qz n0))))))))))) Tryz.func9 h
theorem EW{Vi Vj:Int}{R0:Sl}{w:Wd}{K:Int->Pw}(h:af w (.cells (cY Vi Vj R0).toArray 142) fun _ a=>K 0 a):uY Vi Vj R0 w K:=cu PK (qz (qz n0)) Tryz.func103 h
theorem EX{Vi Vj:Int}{R0:Sl}{w:Wd}{rd:Bool}{K:Int->Pw}{X:PX}(h:uY Vi Vj R0 w K):aD pz rd (.func (.func 103) #[] #[]) [.agg ([.int .u8 Vi,.int .u8 Vj,.slice R0.a R0.len R0.cap]).toArray] [yA] K X w:=tA h
theorem mE{c:Option Addr}{t0 t1:Int}{t2 t3:Int}{w:Wd}{K:Int->Int->Sl->Int->Pw}(h:af w (.cells (fh t0 t1 t2 t3).toArray 30) fun g a8=>af a8 (.cells (jQ 0 0).toArray 142) fun a B=>∃v:Int->Pw,(∃Y:Int,Cell B ((A0 g).add 3) (.int .u8 Y)/\If (Y == 0) (v 1 B) (v 2 B))/\∀(_:Env)(z:Int)(C:Wd),v z C->∃e:Pw,e (aa C)/\Nn c fun a4=>∃A:Value,ae e a4 (A)/\Nn c fun a5=>∃Z:Int,ae e (a5.add 1) (.int .u32 Z)/\∃a0:Int,ae e ((A0 g).add 3) (.int .u8 a0)/\mn (ae e) (A0 g) fun E M P=>Ad A fun _=>oh pz A "Get" [.int .u32 Z,.int .u8 z,.int .u8 a0,.agg ((iT E M P)).toArray] [yF, yA] (fun a6 W D=>e D/\If (W != 0) (aP D (A0 a) 3 (jQ 0 0) fun t=>bZ (Cell t) (A0 a) fun Q R m=>K Q R m W t) (fL a6 D fun U V h a7 _ a9=>af a9 (.cells (jQ 0 0).toArray 142) fun f b0=>aP b0 (A0 f) 3 (cY U V h) fun b=>If (a7 != 0) (aP b (A0 a) 3 (jQ 0 0) fun u=>bZ (Cell u) (A0 a) fun S T n=>K S T n 5 u) (∃a1:Int,Cell b (A0 f) (.int .u8 a1)/\If (a1 != z) (aP b (A0 a) 3 (jQ 0 0) fun p=>bZ (Cell p) (A0 a) fun F G i=>K F G i 5 p) (∃a2:Int,Cell b ((A0 f).add 1) (.int .u8 a2)/\∃a3:Int,Cell b ((A0 g).add 3) (.int .u8 a3)/\If (a2 != a3) (aP b (A0 a) 3 (jQ 0 0) fun q=>bZ (Cell q) (A0 a) fun H I j=>K H I j 5 q) (∃o:Sl,Cell b ((A0 f).add 2) o.u/\If (((o.len:Int)) == 0) (aP b (A0 a) 3 (jQ 0 0) fun r=>bZ (Cell r) (A0 a) fun J L k=>K J L k 5 r) (bZ (Cell b) (A0 f) fun x y d=>aP b (A0 a) 3 (cY x y d) fun s=>bZ (Cell s) (A0 a) fun N O l=>K N O l 0 s)))))) cc ((aa C))):fF c t0 t1 t2 t3 w K:=cu PK (qz (qz (.join [(6,.int .u8)] 14400 (qz (.cond n0 n0)) (.seq (.draw (bY [0,1,2,3,4,5,6,7,8,9,10,11,12,13,14] (.one 15 (bY [16,17,18,19,20] .fin)))) (.seq (qz (.cond (qz n0) n0)) (qz (.seq (qz (.cond (qz n0) n0)) (qz n0)))))))) Tryz.func174 h
theorem mF{c:Option Addr}{choose:Value}{w:Wd}{K:Int->Pw}(h:∃h:Pw,(If (Option.isNone c) (K 1 w) (Nn c fun r=>∃g:Value,Cell w r (g)/\Rk g/\If (nI g) (K 1 w) (h w)))/\∀(_:Env)(a:Wd),h a->Nn c fun b=>jD (Cell a) (b.add 2) fun i j k l=>If (((i == 0) && ((j == 0) && ((k == 0) && (true)))) && ((l == 0) && (true))) (K 0 a) (Nn c fun d=>jD (Cell a) (d.add 2) fun m n o p=>fD c ⟨none,0,0⟩ m n o p choose a fun e f q=>If (f == 0) (Nn c fun s=>aQ q (s.add 6) e.u fun t=>K f t) (K f q))):dN c choose w K:=cu PK (qz (.join [] 65424 (qz (.cond (qz n0) n0)) (.seq (qz (.cond (qz n0) n0)) (qz (.seq (qz (.cond n0 n0)) (qz n0)))))) Tryz.func102 h
theorem qS{s:Value}{ai t0:Int}{t1 t2 t3:Int}{w:Wd}{K:Option Addr->Int->Pw}(h:af w (.cells (fh t0 t1 t2 t3).toArray 30) fun b a=>Rk s/\If (nI s) (K none 1 a) (jD (Cell a) (A0 b) fun d e f g=>aJ s=true/\af a (.cells [s,.int .u32 ai,.int .u32 d,.int .u64 e,.int .u16 f,.int .u8 g,.slice none 0 0].toArray 183) fun c j=>dN (some (A0 c)) (.func (.func 103) #[] #[]) j fun h i=>If (h != 0) (K none h i) (K (some (A0 c)) 0 i))):fY s ai t0 t1 t2 t3 w K:=cu PK (qz (.seq (qz (.cond (qz n0) n0)) (qz (.seq (qz (qz (.cond (qz n0) n0))) (qz n0))))) Tryz.func80 h
theorem GX{n0 n1:Int}{n2:Sl}{w:Wd}{K:Int->Pw}(h:af w (.cells (cY n0 n1 n2).toArray 142) fun d a=>∃e:Int,Cell a ((A0 d).add 1) (.int .u8 e)/\If (e == 0) (∃b:Sl,Cell a ((A0 d).add 2) b.u/\K (b.len:Int) a) (∃c:Sl,Cell a ((A0 d).add 2) c.u/\Ar .i64 (((c.len:Int)) - 1) fun f=>K f a)):xP n0 n1 n2 w K:=cu PK (qz (.seq (qz (.cond (qz .nil) .nil)) (qz .nil))) Tryz.func149 h
theorem GY{n0 n1:Int}{n2:Sl}{w:Wd}{rd:Bool}{K:Int->Pw}{X:PX}(h:xP n0 n1 n2 w K):aD pz rd (.func (.func 149) #[] #[]) [.agg ([.int .u8 n0,.int .u8 n1,.slice n2.a n2.len n2.cap]).toArray] [yA] K X w:=tA h
theorem tL{c:Option Addr}{byv:Int}{choose:Value}{w:Wd}{K:Sl->Int->Pw}(h:Nn c fun I=>∃m:Sl,Cell w (I.add 6) m.u/\Ar .i64 (((m.len:Int)) - 2) fun W=>∃l:Nat->Int->Pw,(∃R,l R W w)/\∀(_:Env)(x:Nat)(b:Int)(d:Wd),l x b d->If (decide (b≥0)) (Nn c fun J=>∃i:Sl,Cell d (J.add 6) i.u/\Ix i.a i.len b 4 fun L=>∃D:Int,Cell d (L.add 3) (.int .i64 D)/\Ar .i64 (D+byv) fun q=>∃z:Pw,(If (decide (q < 0)) (Ar .i64 (b - 1) fun Y=>∃h,h < x/\l h Y d) (Nn c fun M=>∃j:Sl,Cell d (M.add 6) j.u/\Ix j.a j.len b 4 fun N=>∃n:Sl,Cell d (N.add 2) n.u/\If (decide (q≥((n.len:Int)))) (Ar .i64 (b - 1) fun Z=>∃h,h < x/\l h Z d) (z d)))/\∀(_:Env)(y:Wd),z y->Ar .i64 (b+1) fun a0=>Nn c fun O=>∃o:Sl,Cell y (O.add 6) o.u/\FZ y 230 (ab6 0 0 0) 40 a0 ((o.len:Int)) fun f F=>Nn c fun P=>∃g:Sl,Cell F (P.add 6) g.u/\dR pz 181 181 f g.u (fun _ U=>Ix f.a f.len b 4 fun Q=>aQ U (Q.add 3) (.int .i64 q) fun p=>Ix f.a f.len b 4 fun r=>bZ (Cell p) r fun u v a=>af p (.cells (jQ 0 0).toArray 142) fun t V=>aP V (A0 t) 3 (cY u v a) fun G=>∃e:Pw,e (aa G)/\∃k:Sl,ae e ((A0 t).add 2) k.u/\Ix k.a k.len q 9 fun s=>mn (ae e) (s.add 6) fun A B C=>∃E:Int,ae e ((A0 t).add 1) (.int .u8 E)/\Ar .u8 (E - 1) fun a1=>fD c f A B C a1 choose (aa G) fun S T H=>e H/\K S T H) F) (K ⟨none,0,0⟩ 0 d)):fE c byv choose w K:=cu PK (qz (.seq (qz (.block (.loop [(8,.int .i64)] 309485009821345068724522944 (.seq (qz (.cond n0 n0)) (.seq (.block (qz (.join [] 281470681743360 (qz (.cond n0 n0)) (qz (qz (qz (qz (.seq (.draw (bY [0,1,2,3,4,5,6,7,8,9,10,11,12] (.one 13 (bY [14,15,16,17] .fin)))) n0)))))))) n0))))) (qz n0))) Tryz.func146 h
theorem tM{c:Option Addr}{x0 x1:Sl}{x2 x3:Int}{x4 x5:Int}{x6 x7 x8:Int}{w:Wd}{K:Sl->Sl->Int->Pw}(h:af w (.cells (sY x0 x1 x2 x3 x4 x5 x6 x7 x8).toArray 151) fun p B=>af B (.cells (ow).toArray 92) fun b y=>∃a:Pw,a (aa y)/\Nn c fun z=>∃v:Value,ae a z (v)/\Nn c fun A=>∃x:Int,ae a (A.add 1) (.int .u32 x)/\Nn c fun f=>jD (ae a) (f.add 2) fun q r s t=>∃k:Sl,ae a (A0 p) k.u/\fw v x q r s t k (aa y) fun e u m=>a m/\If (u != 0) (aP m (A0 b) 2 (ow) fun n=>qo (Cell n) (A0 b) fun g h=>K g h u n) (∃l:Sl,Cell m (A0 p) l.u/\dE l m fun d C=>aP C (A0 b) 2 (xO d e) fun o=>qo (Cell o) (A0 b) fun i j=>K i j 0 o)):cq c x0 x1 x2 x3 x4 x5 x6 x7 x8 w K:=cu PK (qz (.seq (.draw (bY [0,1,2,3,4,5,6,7,8,9,10,11,12,13] (.one 14 (bY [15,16,17,18,19] .fin)))) (.seq (qz (.cond (qz n0) n0)) (qz n0)))) Tryz.func147 h
theorem tN{c:Option Addr}{w:Wd}{K:Sl->Sl->Int->Pw}(h:af w (.cells (ow).toArray 92) fun a U=>∃b9:Pw,(If (Option.isNone c) (aP U (A0 a) 2 (ow) fun b1=>qo (Cell b1) (A0 a) fun D E=>K D E 1 b1) (Nn c fun d1=>∃a7:Value,Cell U d1 (a7)/\Rk a7/\If (nI a7) (aP U (A0 a) 2 (ow) fun b5=>qo (Cell b5) (A0 a) fun M P=>K M P 1 b5) (b9 U)))/\∀(_:Env)(B:Wd),b9 B->Nn c fun d2=>∃n:Sl,Cell B (d2.add 6) n.u/\∃W:Sl->Pw,(∃V:Bool->Pw,(If (decide (((n.len:Int)) > 0)) (Ar .i64 (((n.len:Int)) - 1) fun e5=>Ix n.a n.len e5 4 fun d6=>∃c2:Int,Cell B (d6.add 3) (.int .i64 c2)/\V (c2 == 0) B) (V false B))/\∀(_:Env)(c1:Bool)(b6:Wd),V c1 b6->If c1 (fE c (-1) (.func (.func 149) #[] #[]) b6 fun e2 c0 d0=>If (c0 != 0) (aP d0 (A0 a) 2 (ow) fun b7=>qo (Cell b7) (A0 a) fun Q R=>K Q R c0 b7) (W e2 d0)) (W n b6))/\∀(_:Env)(d:Sl)(C:Wd),W d C->If (((d.len:Int)) == 0) (aP C (A0 a) 2 (ow) fun b8=>qo (Cell b8) (A0 a) fun S T=>K S T 7 b8) (Ar .i64 (((d.len:Int)) - 1) fun e6=>Ix d.a d.len e6 4 fun o=>∃b:Pw,b (aa C)/\Nn (some o) fun d7=>∃A:Sl,ae b (d7.add 2) A.u/\Nn (some o) fun d8=>∃c3:Int,ae b (d8.add 3) (.int .i64 c3)/\Ar .i64 (c3 - 1) fun e7=>Ix A.a A.len e7 9 fun e=>wk (ae b) e fun z y Y Z a0 a1 a2 a3 a4=>(cq c z y Y Z a0 a1 a2 a3 a4 (aa C) fun p r a5 c6=>b c6/\af c6 (.cells (ow).toArray 92) fun v c7=>b c7/\aP c7 (A0 v) 2 (xO p r) fun t=>b t/\If (a5 == 0) (Nn (some o) fun d9=>∃c4:Int,Cell t (d9.add 3) (.int .i64 c4)/\Ar .i64 (c4 - 1) fun e8=>Nn (some o) fun e0=>aQ t (e0.add 3) (.int .i64 e8) fun e3=>Nn c fun e1=>aQ e3 (e1.add 6) d.u fun a8=>qo (Cell a8) (A0 v) fun f g=>aP a8 (A0 a) 2 (xO f g) fun a9=>qo (Cell a9) (A0 a) fun F G=>K F G a5 a9) (qo (Cell t) (A0 v) fun h i=>aP t (A0 a) 2 (xO h i) fun b0=>qo (Cell b0) (A0 a) fun H I=>K H I a5 b0))/\(af (aa C) (.cells (ow).toArray 92) fun x c8=>b c8/\cq c z y Y Z a0 a1 a2 a3 a4 c8 fun q s a6 c9=>b c9/\aP c9 (A0 x) 2 (xO q s) fun u=>b u/\If (a6 == 0) (Nn (some o) fun d3=>∃c5:Int,Cell u (d3.add 3) (.int .i64 c5)/\Ar .i64 (c5 - 1) fun e9=>Nn (some o) fun d4=>aQ u (d4.add 3) (.int .i64 e9) fun e4=>Nn c fun d5=>aQ e4 (d5.add 6) d.u fun b2=>qo (Cell b2) (A0 x) fun j k=>aP b2 (A0 a) 2 (xO j k) fun b3=>qo (Cell b3) (A0 a) fun J L=>K J L a6 b3) (qo (Cell u) (A0 x) fun l m=>aP u (A0 a) 2 (xO l m) fun b4=>qo (Cell b4) (A0 a) fun N O=>K N O a6 b4)))):iv c w K:=cu PK (qz (.join [] 1047560 (qz (.cond (qz n0) n0)) (qz (.join [(4,.sl)] 70368727400568 (qz (.join [(36,.bool)] 137371844608 n0 (.cond (qz (qz (qz (.cond (qz n0) n0)))) n0))) (.seq (qz (.cond (qz n0) n0)) (qz (.seq (.draw (bY [0,1,2,3,4,5,6,7,8,9,10,11,12] (.two 13 (bY [14,15,16] (.one 17 (.one 18 (.take 19 .fin)))) 17 (.one 13 (bY [14,15,16] (.one 18 (.take 19 .fin))))))) (.seq (qz (.cond (qz n0) n0)) (qz n0))))))))) Tryz.func108 h
theorem tP{c:Option Addr}{w:Wd}{rd:Bool}{K:Sl->Sl->Int->Pw}{X:PX}(h:iv c w K):aD pz rd (.func (.func 108) #[.pointer c] #[]) [] [.agg [yM, yM], yA] K X w:=tA h
theorem tQ{c:Option Addr}{w:Wd}{K:Sl->Sl->Int->Pw}(h:af w (.cells (ow).toArray 92) fun a V=>∃c0:Pw,(If (Option.isNone c) (aP V (A0 a) 2 (ow) fun b2=>qo (Cell b2) (A0 a) fun D E=>K D E 1 b2) (Nn c fun d2=>∃a8:Value,Cell V d2 (a8)/\Rk a8/\If (nI a8) (aP V (A0 a) 2 (ow) fun b6=>qo (Cell b6) (A0 a) fun M P=>K M P 1 b6) (c0 V)))/\∀(_:Env)(B:Wd),c0 B->Nn c fun d3=>∃e:Sl,Cell B (d3.add 6) e.u/\∃Y:Sl->Pw,(∃W:Bool->Pw,(∃b:Pw,b (aa B)/\If (decide (((e.len:Int)) > 0)) (Ar .i64 (((e.len:Int)) - 1) fun e7=>Ix e.a e.len e7 4 fun d8=>∃c3:Int,ae b (d8.add 3) (.int .i64 c3)/\Ar .i64 (((e.len:Int)) - 1) fun e8=>Ix e.a e.len e8 4 fun d9=>∃U:Sl,ae b (d9.add 2) U.u/\W (c3 == ((U.len:Int))) ((aa B))) (W false ((aa B))))/\∀(_:Env)(c2:Bool)(b7:Wd),W c2 b7->If c2 (fE c 1 (.func (.func 103) #[] #[]) b7 fun e4 c1 d1=>If (c1 != 0) (aP d1 (A0 a) 2 (ow) fun b8=>qo (Cell b8) (A0 a) fun Q R=>K Q R c1 b8) (Y e4 d1)) (Y e b7))/\∀(_:Env)(d:Sl)(C:Wd),Y d C->If (((d.len:Int)) == 0) (aP C (A0 a) 2 (ow) fun b9=>qo (Cell b9) (A0 a) fun S T=>K S T 7 b9) (Ar .i64 (((d.len:Int)) - 1) fun e9=>Ix d.a d.len e9 4 fun o=>∃b:Pw,b (aa C)/\Nn (some o) fun e0=>∃A:Sl,ae b (e0.add 2) A.u/\Nn (some o) fun e1=>∃c4:Int,ae b (e1.add 3) (.int .i64 c4)/\Ix A.a A.len c4 9 fun f=>wk (ae b) f fun z y Z a0 a1 a2 a3 a4 a5=>(cq c z y Z a0 a1 a2 a3 a4 a5 (aa C) fun p r a6 c7=>b c7/\af c7 (.cells (ow).toArray 92) fun v c8=>b c8/\aP c8 (A0 v) 2 (xO p r) fun t=>b t/\If (a6 == 0) (Nn (some o) fun e2=>∃c5:Int,Cell t (e2.add 3) (.int .i64 c5)/\Ar .i64 (c5+1) fun f0=>Nn (some o) fun e3=>aQ t (e3.add 3) (.int .i64 f0) fun e5=>Nn c fun d4=>aQ e5 (d4.add 6) d.u fun a9=>qo (Cell a9) (A0 v) fun g h=>aP a9 (A0 a) 2 (xO g h) fun b0=>qo (Cell b0) (A0 a) fun F G=>K F G a6 b0) (qo (Cell t) (A0 v) fun i j=>aP t (A0 a) 2 (xO i j) fun b1=>qo (Cell b1) (A0 a) fun H I=>K H I a6 b1))/\(af (aa C) (.cells (ow).toArray 92) fun x c9=>b c9/\cq c z y Z a0 a1 a2 a3 a4 a5 c9 fun q s a7 d0=>b d0/\aP d0 (A0 x) 2 (xO q s) fun u=>b u/\If (a7 == 0) (Nn (some o) fun d5=>∃c6:Int,Cell u (d5.add 3) (.int .i64 c6)/\Ar .i64 (c6+1) fun f1=>Nn (some o) fun d6=>aQ u (d6.add 3) (.int .i64 f1) fun e6=>Nn c fun d7=>aQ e6 (d7.add 6) d.u fun b3=>qo (Cell b3) (A0 x) fun k l=>aP b3 (A0 a) 2 (xO k l) fun b4=>qo (Cell b4) (A0 a) fun J L=>K J L a7 b4) (qo (Cell u) (A0 x) fun m n=>aP u (A0 a) 2 (xO m n) fun b5=>qo (Cell b5) (A0 a) fun N O=>K N O a7 b5)))):iu c w K:=cu PK (qz (.join [] 1047560 (qz (.cond (qz n0) n0)) (qz (.join [(4,.sl)] 18014398492704888 (qz (.join [(44,.bool)] 35184304979968 (.draw (bY [0,1,2,3,4,5,6,7,8,9,10,11,12,13,14,15,16,17,18] .fin)) (.cond (qz (qz (qz (.cond (qz n0) n0)))) n0))) (.seq (qz (.cond (qz n0) n0)) (qz (.seq (.draw (bY [0,1,2,3,4,5,6,7,8,9,10,11] (.two 12 (bY [13,14,15] (.one 16 (.one 17 (.take 18 .fin)))) 16 (.one 12 (bY [13,14,15] (.one 17 (.take 18 .fin))))))) (.seq (qz (.cond (qz n0) n0)) (qz n0))))))))) Tryz.func105 h
theorem tR{c:Option Addr}{w:Wd}{rd:Bool}{K:Sl->Sl->Int->Pw}{X:PX}(h:iu c w K):aD pz rd (.func (.func 105) #[.pointer c] #[]) [] [.agg [yM, yM], yA] K X w:=tA h
theorem qT{n0 n1:Int}{n2:Sl}{c0:Addr}{w:Wd}{K:Int->Pw}(h:af w (.cells (cY n0 n1 n2).toArray 142) fun b a=>∃k:Int,Cell a ((A0 b).add 1) (.int .u8 k)/\If (decide (k > 0)) (bZ (Cell a) (A0 b) fun g h c=>∃e:Sl,Cell a c0 e.u/\hH g h c e a fun l n=>K l n) (bZ (Cell a) (A0 b) fun i j d=>∃f:Sl,Cell a c0 f.u/\i_ i j d f a fun m _ o=>K m o)):kJ n0 n1 n2 c0 w K:=cu PK (qz (.seq (qz (.cond (qz .nil) .nil)) (qz (qz .nil)))) Tryz.func148 h
theorem qU{n0 n1:Int}{n2:Sl}{c0:Addr}{w:Wd}{rd:Bool}{K:Int->Pw}{X:PX}(h:kJ n0 n1 n2 c0 w K):aD pz rd (.func (.func 148) #[] #[.pointer (some c0)]) [.agg ([.int .u8 n0,.int .u8 n1,.slice n2.a n2.len n2.cap]).toArray] [yA] K X w:=tA h
theorem tU{c:Option Addr}{key:Sl}{w:Wd}{K:Int->Pw}(h:af w (.cells [key.u].toArray 23) fun a d=>dN c (.func (.func 148) #[] #[.pointer (some (A0 a))]) d fun b e=>K b e):fC c key w K:=cu PK (qz (qz n0)) Tryz.func106 h
theorem vj{c:Option Addr}{w:Wd}{K:Int->Pw}(h:dN c (.func (.func 149) #[] #[]) w fun a b=>K a b):ja c w K:=cu PK (qz (qz n0)) Tryz.func107 h
theorem sG{yield:Value}{c0 c1:Addr}{c2 c3:Addr}{w:Wd}{K:Pw}(h:∃S:Option Addr,Cell w c0 (.pointer S)/\∃z:Int->Value->Pw,(∃T:Bool,Cell w c1 (.bool T)/\If (!T) (∃Y:Option Addr,Cell w c0 (.pointer Y)/\∃J:Sl,Cell w c2 J.u/\fC Y J w fun b4 d1=>z b4 (.func (.func 105) #[.pointer S] #[]) d1) (∃L:Sl,Cell w c3 L.u/\If (((L.len:Int)) == 0) (∃f:Pw,f (aa w)/\∃Z:Option Addr,ae f c0 (.pointer Z)/\∃a0:Option Addr,ae f c0 (.pointer a0)/\ja Z (aa w) fun b5 b0=>f b0/\z b5 (.func (.func 108) #[.pointer a0] #[]) b0) (∃f:Pw,f (aa w)/\∃a1:Option Addr,ae f c0 (.pointer a1)/\∃M:Sl,ae f c3 M.u/\∃a2:Option Addr,ae f c0 (.pointer a2)/\fC a1 M (aa w) fun b9 b1=>f b1/\z b9 (.func (.func 108) #[.pointer a2] #[]) b1)))/\∀(_:Env)(Q:Int)(R:Value)(b2:Wd),z Q R b2->∃g:Nat->Int->Pw,(∃b3,g b3 Q b2)/\∀(_:Env)(h:Nat)(A:Int)(P:Wd),g h A P->If (A == 0) (af P (.cells (ow).toArray 92) fun c d3=>aD pz true R [] [.agg [yM, yM], yA] (fun x y d d4=>aP d4 (A0 c) 2 (xO x y) fun b=>If (d == 7) (K b) (If (d == 0) (∃U:Bool,Cell b c1 (.bool U)/\If U (∃B:Sl,Cell b (A0 c) B.u/\∃C:Sl,Cell b c2 C.u/\ct B C b fun c4 e=>If (decide (c4 < 0)) (K e) (∃V:Bool,Cell e c1 (.bool V)/\If (!V) (∃D:Sl,Cell e c3 D.u/\If (decide (((D.len:Int)) > 0)) (∃E:Sl,Cell e (A0 c) E.u/\∃F:Sl,Cell e c3 F.u/\ct E F e fun c5 N=>If (decide (c5≥0)) (K N) (qo (Cell N) (A0 c) fun i j=>aD pz true yield [.agg ((xO i j)).toArray,.int .i64 d] [yG] (fun c6 a3=>If (!c6) (K a3) (∃a,a < h/\g a d a3)) cc N)) (qo (Cell e) (A0 c) fun o p=>aD pz true yield [.agg ((xO o p)).toArray,.int .i64 d] [yG] (fun c7 a4=>If (!c7) (K a4) (∃a,a < h/\g a d a4)) cc e)) (qo (Cell e) (A0 c) fun q r=>aD pz true yield [.agg ((xO q r)).toArray,.int .i64 d] [yG] (fun c8 a5=>If (!c8) (K a5) (∃a,a < h/\g a d a5)) cc e))) (∃W:Bool,Cell b c1 (.bool W)/\If (!W) (∃G:Sl,Cell b c3 G.u/\If (decide (((G.len:Int)) > 0)) (∃H:Sl,Cell b (A0 c) H.u/\∃I:Sl,Cell b c3 I.u/\ct H I b fun c9 O=>If (decide (c9≥0)) (K O) (qo (Cell O) (A0 c) fun s t=>aD pz true yield [.agg ((xO s t)).toArray,.int .i64 d] [yG] (fun d0 a6=>If (!d0) (K a6) (∃a,a < h/\g a d a6)) cc O)) (qo (Cell b) (A0 c) fun u v=>aD pz true yield [.agg ((xO u v)).toArray,.int .i64 d] [yG] (fun b6 a7=>If (!b6) (K a7) (∃a,a < h/\g a d a7)) cc b)) (qo (Cell b) (A0 c) fun k l=>aD pz true yield [.agg ((xO k l)).toArray,.int .i64 d] [yG] (fun b7 a8=>If (!b7) (K a8) (∃a,a < h/\g a d a8)) cc b))) (qo (Cell b) (A0 c) fun m n=>aD pz true yield [.agg ((xO m n)).toArray,.int .i64 d] [yG] (fun b8 a9=>If (!b8) (K a9) (∃a,a < h/\g a d a9)) cc b))) cc d3) (If (A != 0) (aD pz true yield [.agg ((ow)).toArray,.int .i64 A] [yG] (fun _ d2=>K d2) cc P) (K P))):gH yield c0 c1 c2 c3 w K:=cu PK (qz (qz (.join [(6,.int .i64),(7,.val)] 1073739968 (.block (qz (.cond n0 (qz (.cond (.draw (bY [0,2,3] (.one 1 (bY [4,5] .fin)))) (.draw (bY [0,1,3,4] (.one 2 (bY [5,6] .fin))))))))) (.seq (.block (.loop [(6,.int .i64)] 4722366482868571472192 (.seq (qz (.cond n0 n0)) (.block (qz (.seq (qz (qz (.cond n0 n0))) (.seq (qz (.cond n0 n0)) (qz (.cond n0 n0))))))))) (qz (.cond n0 n0)))))) Tryz.func104 h
theorem sH{yield:Value}{c0 c1:Addr}{c2 c3:Addr}{w:Wd}{rd:Bool}{K:Pw}{X:PX}(h:gH yield c0 c1 c2 c3 w K):aD pz rd (.func (.func 104) #[] #[.pointer (some c0),.pointer (some c1),.pointer (some c2),.pointer (some c3)]) [yield] [] K X w:=tA h
theorem vk{c:Option Addr}{fj to:Sl}{back:Bool}{w:Wd}{K:Value->Pw}(h:af w (.cells [.pointer c].toArray 153) fun a f=>af f (.cells [fj.u].toArray 23) fun b g=>af g (.cells [to.u].toArray 23) fun d h=>af h (.cells [.bool back].toArray 4) fun e i=>K (.func (.func 104) #[] #[.pointer (some (A0 a)),.pointer (some (A0 e)),.pointer (some (A0 b)),.pointer (some (A0 d))]) i):nf c fj to back w K:=cu PK (qz (qz n0)) Tryz.func81 h
theorem AA{s:Value}{t0 t1:Int}{t2 t3:Int}{w:Wd}{K:Sl->Int->Pw}(h:af w (.cells (fh t0 t1 t2 t3).toArray 30) fun k i=>jD (Cell i) (A0 k) fun z A F G=>lO s 0 z A F G ⟨none,0,0⟩ ⟨none,0,0⟩ 4611686018427387904 false i fun u U W=>If (U != 0) (K ⟨none,0,0⟩ U W) (∃r:Nat->Sl->Int->Pw,(∃a0,r a0 ⟨none,0,0⟩ 0 W)/\∀(_:Env)(L:Nat)(t:Sl)(m:Int)(j:Wd),r L t m j->If (decide (m < ((u.len:Int)))) (Ix u.a u.len m 2 fun y=>qo (Cell j) y fun c d=>af j (.cells (ow).toArray 92) fun l a6=>aP a6 (A0 l) 2 (xO c d) fun Y=>∃n:Sl,Cell Y (A0 l) n.u/\fm n Y fun a1 a2 q=>∃x:Pw,(If (a2 != 0) (K ⟨none,0,0⟩ 5 q) (∃o:Sl,Cell q (A0 l) o.u/\If (((o.len:Int)) != 4) (K ⟨none,0,0⟩ 5 q) (x q)))/\∀(_:Env)(v:Wd),x v->Ar .u32 a1 fun a9=>∃p:Sl,Cell v ((A0 l).add 1) p.u/\fW a9 p v fun N O g P Q R S T h V a7=>af a7 (.cells (dw 0 0 0 0 0 0 0).toArray 33) fun b a8=>aP a8 (A0 b) 9 (ml N O g P Q R S T h) fun a=>If (V != 0) (K ⟨none,0,0⟩ V a) (dr (Cell a) (A0 b) fun H I f J B C D E e=>af a (.cells (ml H I f J B C D E e).toArray 33) fun Z a4=>bg pz 44 44 t (.slice (some (A0 Z)) 1 1) (fun a3 a5=>Ar .i64 (m+1) fun b0=>∃M,M < L/\r M a3 b0 a5) a4)) (K t 0 j))):fu s t0 t1 t2 t3 w K:=cu PK (qz (qz (.seq (qz (.cond (qz n0) n0)) (qz (.seq (qz (.block (.loop [(8,.sl),(25,.int .i64)] 576460752269884720 (qz (.seq (.cond n0 n0) (.seq (.block (qz (qz (.join [] 8761733283888 (qz (.cond (qz n0) n0)) (qz (.seq (qz (.cond (qz n0) n0)) n0)))))) n0)))))) (qz n0)))))) Tryz.func16 h
theorem Cv{gen:Int}{w:Wd}{K:Option Addr->Pw}(h:af w (.map #[] 0) fun a c=>af c (.cells [.map (some a),.int .u64 1,.int .u16 gen].toArray 97) fun b d=>K (some (A0 b)) d):kA gen w K:=cu PK (qz (qz n0)) Tryz.func17 h
theorem GZ{x0 x1:Int}{x2:Sl}{x3 x4:Int}{x5 x6 x7:Int}{x8:Sl}{w:Wd}{K:Bool->Pw}(h:af w (.cells (ml x0 x1 x2 x3 x4 x5 x6 x7 x8).toArray 33) fun b c=>∃p:Pw,(∃a:Pw,a (aa c)/\∃x:Int,ae a (A0 b) (.int .u32 x)/\If (x == 0) (K false ((aa c))) (∃y:Int,ae a ((A0 b).add 1) (.int .i64 y)/\If (decide (y < 1)) (K false ((aa c))) (∃B:Int,ae a ((A0 b).add 1) (.int .i64 B)/\If (decide (B > 1000)) (K false ((aa c))) (∃l:Sl,ae a ((A0 b).add 2) l.u/\If (((l.len:Int)) != 16) (K false ((aa c))) (∃C:Int,ae a ((A0 b).add 7) (.int .i64 C)/\If (decide (C < 0)) (K false ((aa c))) (∃D:Int,ae a ((A0 b).add 7) (.int .i64 D)/\∃E:Int,ae a ((A0 b).add 1) (.int .i64 E)/\If (decide (D > E)) (K false ((aa c))) (jD (ae a) ((A0 b).add 3) fun q r s t=>∃F:Int,ae a ((A0 b).add 7) (.int .i64 F)/\If (!((((q == 0) && ((r == 0) && ((s == 0) && (true)))) && ((t == 0) && (true))) == (F == 0))) (K false ((aa c))) (∃m:Sl,ae a ((A0 b).add 8) m.u/\If (decide (((m.len:Int)) < 1)) (K false ((aa c))) (∃n:Sl,ae a ((A0 b).add 8) n.u/\If (decide (((n.len:Int)) > 2)) (K false ((aa c))) (p ((aa c))))))))))))/\∀(_:Env)(G:Wd),p G->∃o:Nat->Int->Pw,(∃L,o L 0 G)/\∀(_:Env)(u:Nat)(h:Int)(d:Wd),o u h d->∃i:Sl,Cell d ((A0 b).add 8) i.u/\If (decide (h < ((i.len:Int)))) (∃e:Sl,Cell d ((A0 b).add 8) e.u/\Ix e.a e.len h 3 fun H=>∃j:Sl,Cell d (H.add 2) j.u/\If (((j.len:Int)) != 32) (K false d) (Ar .i64 (h+1) fun M=>∃v,v < u/\o v M d)) (∃a:Pw,a (aa d)/\∃k:Sl,ae a ((A0 b).add 8) k.u/\If (((k.len:Int)) == 1) (K true ((aa d))) (∃f:Sl,ae a ((A0 b).add 8) f.u/\Ix f.a f.len 1 3 fun I=>∃z:Int,ae a I (.int .u16 z)/\Ar .i64 z fun N=>∃g:Sl,ae a ((A0 b).add 8) g.u/\Ix g.a g.len 0 3 fun J=>∃A:Int,ae a J (.int .u16 A)/\Ar .i64 A fun O=>Ar .i64 (O+1) fun P=>K (N == P) ((aa d))))):kH x0 x1 x2 x3 x4 x5 x6 x7 x8 w K:=cu PK (qz (.join [] 144115188075855860 (.seq (.draw (bY [0,1,2,3,4,5,6,7,8,9,10,11,12,13,14,15,16,17,18,19,20,21,22,23,24,25,26,27,28,29,30,31,32,33,34,35,36,37,38,39,40,41,42,43,44,45,46,47,48,49,50,51,52] .fin)) (.cond (qz n0) n0)) (.seq (qz (.block (.loop [(3,.int .i64)] 4722222367681569357836 (.seq (qz (.cond n0 n0)) (.seq (.block (qz (.cond (qz n0) n0))) n0))))) (.seq (.draw (bY [0,1,2,3,4,5,6,7,8,9,10,11,12,13,14,15,16,17,18,19,20] .fin)) n0)))) Tryz.func23 h
theorem G_{n:Int}{w:Wd}{K:Sl->Pw}(h:If (decide (n < 128)) (Ar .u8 n fun i=>af w (.cells [.int .u8 i].toArray 5) fun b e=>K ⟨some (A0 b),1,1⟩ e) ((128:Int)≠0/\Nm (Int.tmod n 128) fun j=>Ar .u8 j fun k=>Ar .u8 (k+128) fun l=>af w (.cells [.int .u8 l].toArray 5) fun c f=>(128:Int)≠0/\Ar .u64 (Int.tdiv n 128) fun m=>cD m f fun a g=>bg pz 23 23 ⟨some (A0 c),1,1⟩ a.u (fun d h=>K d h) g)):cD n w K:=cu PK (qz (.seq (qz (.cond (qz n0) n0)) (qz n0))) Tryz.func62 h
theorem EY{b:Sl}{w:Wd}{K:Sl->Pw}(h:Ar .u64 ((b.len:Int)) fun q=>cD q w fun l n=>∃d:Nat->Sl->Int->Pw,(∃k,d k l 0 n)/\∀(_:Env)(f:Nat)(e:Sl)(a:Int)(c:Wd),d f e a c->If (decide (a < ((b.len:Int)))) (Ix b.a b.len a 1 fun i=>∃h:Int,Cell c i (.int .u8 h)/\af c (.cells [.int .u8 h].toArray 5) fun j o=>bg pz 23 23 e (.slice (some (A0 j)) 1 1) (fun m p=>Ar .i64 (a+1) fun r=>∃g,g < f/\d g m r p) o) (K e c)):iZ b w K:=cu PK (qz (qz (.seq (qz (.block (.loop [(3,.sl),(4,.int .i64)] 4193816 (.seq (qz (.cond n0 n0)) (.seq (.block n0) n0))))) (qz n0)))) Tryz.func63 h
theorem EZ{x0 x1:Int}{x2:Sl}{x3 x4:Int}{x5 x6 x7:Int}{x8:Sl}{w:Wd}{K:Sl->Pw}(h:af w (.cells (ml x0 x1 x2 x3 x4 x5 x6 x7 x8).toArray 33) fun a J=>∃B:Int,Cell J ((A0 a).add 1) (.int .i64 B)/\Ar .u64 B fun c0=>cD c0 J fun W O=>∃C:Int,Cell O ((A0 a).add 7) (.int .i64 C)/\Ar .u64 C fun c1=>cD c1 O fun m b6=>bg pz 23 23 W m.u (fun Y P=>∃h:Sl,Cell P ((A0 a).add 2) h.u/\iZ h P fun o b7=>bg pz 23 23 Y o.u (fun Z Q=>∃F:Int,Cell Q ((A0 a).add 3) (.int .u32 F)/\Ar .u64 F fun c2=>cD c2 Q fun p b8=>bg pz 23 23 Z p.u (fun a0 R=>∃G:Int,Cell R (((A0 a).add 3).add 1) (.int .u64 G)/\cD G R fun q b9=>bg pz 23 23 a0 q.u (fun a1 L=>∃H:Int,Cell L (((A0 a).add 3).add 2) (.int .u16 H)/\Ar .u64 H fun c3=>cD c3 L fun r a8=>bg pz 23 23 a1 r.u (fun a2 M=>∃I:Int,Cell M (((A0 a).add 3).add 3) (.int .u8 I)/\Ar .u64 I fun c4=>cD c4 M fun s a9=>bg pz 23 23 a2 s.u (fun a3 N=>∃i:Sl,Cell N ((A0 a).add 8) i.u/\Ar .u64 ((i.len:Int)) fun c5=>cD c5 N fun t b0=>bg pz 23 23 a3 t.u (fun a4 b1=>∃k:Nat->Sl->Int->Pw,(∃V,k V a4 0 b1)/\∀(_:Env)(z:Nat)(l:Sl)(b:Int)(c:Wd),k z l b c->∃j:Sl,Cell c ((A0 a).add 8) j.u/\If (decide (b < ((j.len:Int)))) (∃f:Sl,Cell c ((A0 a).add 8) f.u/\Ix f.a f.len b 3 fun S=>∃D:Int,Cell c S (.int .u16 D)/\Ar .u64 D fun c6=>cD c6 c fun u b2=>bg pz 23 23 l u.u (fun a5 x=>∃d:Sl,Cell x ((A0 a).add 8) d.u/\Ix d.a d.len b 3 fun T=>∃E:Int,Cell x (T.add 1) (.int .u64 E)/\cD E x fun v b3=>bg pz 23 23 a5 v.u (fun a6 y=>∃e:Sl,Cell y ((A0 a).add 8) e.u/\Ix e.a e.len b 3 fun U=>∃g:Sl,Cell y (U.add 2) g.u/\iZ g y fun n b4=>bg pz 23 23 a6 n.u (fun a7 b5=>Ar .i64 (b+1) fun c7=>∃A,A < z/\k A a7 c7 b5) b4) b3) b2) (K l c)) b0) a9) a8) b9) b8) b7) b6):lN x0 x1 x2 x3 x4 x5 x6 x7 x8 w K:=cu PK (qz (qz (qz (qz (qz (qz (qz (qz (qz (.seq (qz (.block (.loop [(3,.sl),(4,.int .i64)] 4951760156997405911520641048 (.seq (qz (.cond n0 n0)) (.seq (.block (qz (qz n0))) n0))))) (qz n0))))))))))) Tryz.func24 h
theorem Cw{b:Sl}{w:Wd}{K:Int->Int->Int->Pw}(h:∃e:Nat->Int->Int->Int->Pw,(∃t,e t 0 1 0 w)/\∀(_:Env)(i:Nat)(k:Int)(g:Int)(a:Int)(d:Wd),e i k g a d->If (decide (a < ((b.len:Int)))) (∃f:Pw,(If (a == 9) (Ix b.a b.len a 1 fun p=>∃l:Int,Cell d p (.int .u8 l)/\If (decide (l > 1)) (K 0 0 6 d) (f d)) (f d))/\∀(_:Env)(c:Wd),f c->Ix b.a b.len a 1 fun q=>∃m:Int,Cell c q (.int .u8 m)/\(128:Int)≠0/\Nm (Int.tmod m 128) fun u=>Ar .u64 u fun v=>Ar .u64 (v * g) fun x=>Ar .u64 (k+x) fun h=>Ar .u64 (g * 128) fun y=>Ix b.a b.len a 1 fun r=>∃n:Int,Cell c r (.int .u8 n)/\If (decide (n≥128)) (Ar .i64 (a+1) fun z=>∃j,j < i/\e j h y z c) (Ix b.a b.len a 1 fun s=>∃o:Int,Cell c s (.int .u8 o)/\If (o == 0) (If (decide (a > 0)) (K 0 0 5 c) (Ar .i64 (a+1) fun A=>K h A 0 c)) (Ar .i64 (a+1) fun B=>K h B 0 c))) (K 0 0 4 d)):kB b w K:=cu PK (qz (qz (qz (.seq (qz (.block (.loop [(5,.int .u64),(6,.int .u64),(7,.int .i64)] 4503599627370492 (.seq (qz (.cond n0 n0)) (.seq (.block (.join [] 8372252 (qz (.cond (qz n0) n0)) (qz (qz (.seq (qz (.cond n0 n0)) (.seq (qz (.cond (qz n0) n0)) (qz n0))))))) n0))))) (qz n0))))) Tryz.func73 h
theorem tV{r:Option Addr}{w:Wd}{K:Int->Pw}(h:Nn r fun h=>∃c:Int,Cell w (h.add 2) (.int .i64 c)/\If (c != 0) (K 0 w) (∃b:Pw,b (aa w)/\Nn r fun i=>∃a:Sl,ae b i a.u/\Nn r fun j=>∃d:Int,ae b (j.add 1) (.int .i64 d)/\Cut a d (((a.len:Nat):Int)) (((a.cap:Nat):Int)) 1 fun q=>kB q (aa w) fun n o p f=>b f/\Nn r fun k=>aQ f (k.add 2) (.int .i64 p) fun g=>Nn r fun l=>∃e:Int,Cell g (l.add 1) (.int .i64 e)/\Ar .i64 (e+o) fun t=>Nn r fun m=>aQ g (m.add 1) (.int .i64 t) fun s=>K n s)):bt r w K:=cu PK (qz (.seq (qz (.cond (qz n0) n0)) (.seq (.draw (bY [0,1,2,3,4,5,6,7,8] (.one 9 (bY [10,11,12,13,14,15,16] .fin)))) (qz (qz (qz n0)))))) Tryz.func38 h
theorem sI{r:Option Addr}{most:Int}{w:Wd}{K:Sl->Pw}(h:Nn r fun E=>∃v:Int,Cell w (E.add 2) (.int .i64 v)/\If (v != 0) (K ⟨none,0,0⟩ w) (∃a:Pw,a (aa w)/\Nn r fun F=>∃f:Sl,ae a F f.u/\Nn r fun H=>∃x:Int,ae a (H.add 1) (.int .i64 x)/\Cut f x (((f.len:Nat):Int)) (((f.cap:Nat):Int)) 1 fun S=>kB S (aa w) fun d p e c=>a c/\∃b:Int->Pw,(If (e == 0) (If (decide (most<=0)) (If (decide (d > 0)) (b 3 c) (If (decide (most > 0)) (Ar .u64 most fun W=>If (decide (d > W)) (b 3 c) (b e c)) (b e c))) (If (decide (most > 0)) (Ar .u64 most fun Y=>If (decide (d > Y)) (b 3 c) (b e c)) (b e c))) (b e c))/\∀(_:Env)(k:Int)(h:Wd),b k h->∃j:Int->Pw,(∃a:Pw,a (aa h)/\If (k == 0) (Nn r fun I=>∃m:Sl,ae a I m.u/\Nn r fun J=>∃y:Int,ae a (J.add 1) (.int .i64 y)/\Ar .i64 (((m.len:Int)) - y) fun a1=>Ar .i64 (a1 - p) fun a2=>Ar .u64 a2 fun a3=>If (decide (d > a3)) (j 4 ((aa h))) (j k ((aa h)))) (j k ((aa h))))/\∀(_:Env)(o:Int)(s:Wd),j o s->If (o != 0) (Nn r fun L=>aQ s (L.add 2) (.int .i64 o) fun U=>K ⟨none,0,0⟩ U) (∃n:Nat->Sl->Int->Pw,(∃R,n R ⟨none,0,0⟩ 0 s)/\∀(_:Env)(t:Nat)(q:Sl)(l:Int)(i:Wd),n t q l i->Ar .i64 d fun a4=>If (decide (l < a4)) (∃a:Pw,a (aa i)/\Nn r fun M=>∃g:Sl,ae a M g.u/\Nn r fun N=>∃z:Int,ae a (N.add 1) (.int .i64 z)/\Ar .i64 (z+p) fun a5=>Ar .i64 (a5+l) fun a6=>Ix g.a g.len a6 1 fun O=>∃A:Int,ae a O (.int .u8 A)/\af (aa i) (.cells [.int .u8 A].toArray 5) fun Q C=>a C/\bg pz 23 23 q (.slice (some (A0 Q)) 1 1) (fun T D=>a D/\Ar .i64 (l+1) fun a7=>∃u,u < t/\n u T a7 D) C) (Nn r fun P=>∃B:Int,Cell i (P.add 1) (.int .i64 B)/\Ar .i64 (B+p) fun a8=>Ar .i64 d fun Z=>Ar .i64 (a8+Z) fun a0=>Nn r fun G=>aQ i (G.add 1) (.int .i64 a0) fun V=>K q V)))):eR r most w K:=cu PK (qz (.seq (qz (.cond (qz n0) n0)) (.seq (.draw (bY [0,1,2,3,4,5,6,7,8] (.one 9 (bY [10,11,12,13,14,15,16] .fin)))) (.join [(7,.int .i64)] 562949416550528 (qz (.cond n0 n0)) (.join [(7,.int .i64)] 295147342229399404672 (.seq (.draw (bY [0,1,2,3,4,5,6,7,8,9,10,11,12,13,14,15,16,17,18] .fin)) (.cond n0 n0)) (.seq (qz (.cond (qz (qz n0)) n0)) (qz (.seq (qz (.block (.loop [(8,.sl),(9,.int .i64)] 158456306139062743708507046656 (.seq (qz (.cond n0 n0)) (.seq (.block (.draw (bY [0,1,2,3,4,5,6,7,8,9,10,11,12,13,14] (.one 15 (.one 16 (.take 17 .fin)))))) n0))))) (qz (qz n0)))))))))) Tryz.func39 h
theorem sK{r:Option Addr}{w:Wd}{K:Int->Int->Pw}(h:∃f:Pw,(∃d:Bool->Pw,(∃a:Pw,a (aa w)/\Nn r fun m=>∃h:Int,ae a (m.add 2) (.int .i64 h)/\If (h == 0) (Nn r fun n=>∃i:Int,ae a (n.add 1) (.int .i64 i)/\Nn r fun o=>∃b:Sl,ae a o b.u/\d (decide (i < ((b.len:Int)))) ((aa w))) (d false ((aa w))))/\∀(_:Env)(g:Bool)(c:Wd),d g c->If g (∃a:Pw,a (aa c)/\Nn r fun p=>∃j:Int,ae a (p.add 1) (.int .i64 j)/\K 5 j ((aa c))) (f c))/\∀(_:Env)(e:Wd),f e->∃a:Pw,a (aa e)/\Nn r fun q=>∃k:Int,ae a (q.add 2) (.int .i64 k)/\Nn r fun s=>∃l:Int,ae a (s.add 1) (.int .i64 l)/\K k l ((aa e))):gF r w K:=cu PK (qz (.join [] 33554428 (.join [(20,.bool)] 2097136 (.draw (bY [0,1,2,3,4,5,6,7,8,9,10,11,12,13,14,15,16] .fin)) (.cond (.seq (.draw (bY [0,1,2,3,4,5] .fin)) n0) n0)) (.seq (.draw (bY [0,1,2,3,4,5,6,7,8,9] .fin)) n0))) Tryz.func40 h
theorem E_{a0 a1:Int}{a2:Sl}{b0 b1:Int}{b2:Sl}{w:Wd}{K:Bool->Pw}(h:af w (.cells (tC a0 a1 a2).toArray 76) fun d l=>af l (.cells (tC b0 b1 b2).toArray 76) fun e a=>∃f:Int,Cell a (A0 d) (.int .u16 f)/\∃g:Int,Cell a (A0 e) (.int .u16 g)/\If (f == g) (∃h:Int,Cell a ((A0 d).add 1) (.int .u64 h)/\∃i:Int,Cell a ((A0 e).add 1) (.int .u64 i)/\If (h == i) (∃b:Sl,Cell a ((A0 d).add 2) b.u/\iR (Cell a) b fun j=>∃c:Sl,Cell a ((A0 e).add 2) c.u/\iR (Cell a) c fun k=>K (ByteArray.toList j == ByteArray.toList k) a) (K false a)) (K false a)):pv a0 a1 a2 b0 b1 b2 w K:=cu PK (qz (qz n0)) Tryz.func41 h
theorem Fa{a0 a1:Int}{a2:Sl}{a3 a4:Int}{a5 a6 a7:Int}{a8:Sl}{b0 b1:Int}{b2:Sl}{b3 b4:Int}{b5 b6 b7:Int}{b8:Sl}{w:Wd}{K:Bool->Pw}(h:af w (.cells (ml a0 a1 a2 a3 a4 a5 a6 a7 a8).toArray 33) fun b V=>af V (.cells (ml b0 b1 b2 b3 b4 b5 b6 b7 b8).toArray 33) fun d a=>∃t:Pw,(∃J:Int,Cell a (A0 b) (.int .u32 J)/\∃L:Int,Cell a (A0 d) (.int .u32 L)/\If (J != L) (K false a) (∃M:Int,Cell a ((A0 b).add 1) (.int .i64 M)/\∃N:Int,Cell a ((A0 d).add 1) (.int .i64 N)/\If (M != N) (K false a) (∃l:Sl,Cell a ((A0 b).add 2) l.u/\iR (Cell a) l fun T=>∃m:Sl,Cell a ((A0 d).add 2) m.u/\iR (Cell a) m fun U=>If (!(ByteArray.toList T == ByteArray.toList U)) (K false a) (jD (Cell a) ((A0 b).add 3) fun u v z A=>jD (Cell a) ((A0 d).add 3) fun B C D E=>If (!(((u == B) && ((v == C) && ((z == D) && (true)))) && ((A == E) && (true)))) (K false a) (∃O:Int,Cell a ((A0 b).add 7) (.int .i64 O)/\∃P:Int,Cell a ((A0 d).add 7) (.int .i64 P)/\If (O != P) (K false a) (∃n:Sl,Cell a ((A0 b).add 8) n.u/\∃o:Sl,Cell a ((A0 d).add 8) o.u/\If (((n.len:Int)) != ((o.len:Int))) (K false a) (t a)))))))/\∀(_:Env)(Q:Wd),t Q->∃p:Nat->Int->Pw,(∃R,p R 0 Q)/\∀(_:Env)(H:Nat)(e:Int)(h:Wd),p H e h->∃k:Sl,Cell h ((A0 b).add 8) k.u/\If (decide (e < ((k.len:Int)))) (∃c:Pw,c (aa h)/\∃f:Sl,ae c ((A0 b).add 8) f.u/\Ix f.a f.len e 3 fun q=>Oi (ae c) q fun F G i=>∃g:Sl,ae c ((A0 d).add 8) g.u/\Ix g.a g.len e 3 fun r=>Oi (ae c) r fun x y j=>pv F G i x y j (aa h) fun S s=>c s/\If (!S) (K false s) (Ar .i64 (e+1) fun W=>∃I,I < H/\p I W s)) (K true h)):dz a0 a1 a2 a3 a4 a5 a6 a7 a8 b0 b1 b2 b3 b4 b5 b6 b7 b8 w K:=cu PK (qz (.join [] 1125899906842576 (qz (.cond (qz n0) n0)) (.seq (qz (.block (.loop [(5,.int .i64)] 590294684458798809136 (.seq (qz (.cond n0 n0)) (.seq (.block (.seq (.draw (bY [0,1,2,3,4,5,6,7,8,9] (.one 10 (.take 11 .fin)))) (.cond (qz n0) n0))) n0))))) (qz n0)))) Tryz.func11 h
def vm(ai:Int)(b:Sl)(w:Wd)(K:Bool->Pw):Prop:=If (decide (((b.len:Int)) > 5000)) (cr  w fun Z a7=>K Z a7) (af w (.cells [].toArray 5) fun W b0=>bg pz 23 23 ⟨some (A0 W),0,0⟩ b.u (fun a4 b1=>af b1 (.cells [.int .u8 77].toArray 5) fun Y b2=>bg pz 23 23 a4 (.slice (some (A0 Y)) 1 1) (fun S b3=>Cut S 0 ((b.len:Int)) (((S.cap:Nat):Int)) 1 fun n=>fW ai n b3 fun D F f H J M O Q h a0 b4=>af b4 (.cells (dw 0 0 0 0 0 0 0).toArray 33) fun c b5=>aP b5 (A0 c) 9 (ml D F f H J M O Q h) fun b6=>iY ai b b6 fun E G g I L N P R i a1 b7=>af b7 (.cells (dw 0 0 0 0 0 0 0).toArray 33) fun d a8=>aP a8 (A0 d) 9 (ml E G g I L N P R i) fun a=>If (a0 == a1) (dr (Cell a) (A0 c) fun o p l x y z A B m=>dr (Cell a) (A0 d) fun C q j r s t u v k=>dz o p l x y z A B m C q j r s t u v k a fun a2 e=>If a2 (iR (Cell e) n fun a5=>iR (Cell e) b fun a6=>If (ByteArray.toList a5 == ByteArray.toList a6) (Ar .i64 (((b.len:Int))+1) fun b8=>Cut n 0 b8 (((n.cap:Nat):Int)) 1 fun T=>Ix T.a T.len ((b.len:Int)) 1 fun V=>∃U:Int,Cell e V (.int .u8 U)/\If (U == 77) (cr  e fun a3 a9=>K a3 a9) (K false e)) (K false e)) (K false e)) (K false a)) b2) b0)
def vn:wj:=(qz (.seq (qz (.cond (qz n0) n0)) (qz (qz (qz (qz n0))))))
theorem vo{ai:Int}{b:Sl}{w:Wd}{K:Bool->Pw}(h:vm ai b w K):iW ai b w K:=
 YF PK vn [.int .u32 ai,.slice b.a b.len b.cap] [.one (.bool)] K w Tryz.func3 h
theorem Jg{s:Value}{t0 t1:Int}{t2 t3 ai:Int}{w:Wd}{K:Int->Int->Sl->Int->Int->Int->Int->Int->Sl->Int->Pw}(h:af w (.cells (fh t0 t1 t2 t3).toArray 30) fun g U=>af U (.cells (dw 0 0 0 0 0 0 0).toArray 33) fun a P=>∃d:Pw,d (aa P)/\jD (ae d) (A0 g) fun m n y A=>jV ai (aa P) fun R Q=>d Q/\fw s 0 m n y A R Q fun S O l=>d l/\If (O != 0) (aP l (A0 a) 9 (dw 0 0 0 0 0 0 0) fun b=>dr (Cell b) (A0 a) fun B C k D E F o p h=>K B C k D E F o p h O b) (fW ai S l fun G H e I J L M N f T V=>aP V (A0 a) 9 (ml G H e I J L M N f) fun c=>dr (Cell c) (A0 a) fun q r i t u v x z j=>K q r i t u v x z j T c)):jT s t0 t1 t2 t3 ai w K:=cu PK (qz (.seq (.draw (bY [0,1,2] (.one 3 (.one 4 (bY [5,6,7,8,9] .fin))))) (.seq (qz (.cond (qz n0) n0)) (qz n0)))) Tryz.func12 h
theorem AB{s:Value}{t0 t1:Int}{t2 t3 ai:Int}{w:Wd}{K:Int->Int->Int->Int->Int->Pw}(h:af w (.cells (fh t0 t1 t2 t3).toArray 30) fun c N=>af N (.cells (fh 0 0 0 0).toArray 30) fun b E=>∃a:Pw,a (aa E)/\jD (ae a) (A0 c) fun h i p q=>jV ai (aa E) fun L F=>a F/\fw s 0 h i p q L F fun _ D f=>a f/\If (D != 0) (aP f (A0 b) 4 (fh 0 0 0 0) fun e=>jD (Cell e) (A0 b) fun r t u v=>K r t u v D e) (∃a:Pw,a (aa f)/\jD (ae a) (A0 c) fun x y j k=>jV ai (aa f) fun g G=>a G/\af G (.cells (ab7 g true).toArray 52) fun J H=>a H/\gq s 0 x y j k ⟨some (A0 J),1,1⟩ H fun z A B C M I=>a I/\aP I (A0 b) 4 (fh z A B C) fun d=>a d/\jD (Cell d) (A0 b) fun l m n o=>K l m n o M d)):mw s t0 t1 t2 t3 ai w K:=cu PK (qz (.seq (.seq (.draw (bY [0,1,2] (.one 3 (.one 4 (bY [5,6,7,8,9] .fin))))) (qz (.cond (qz n0) n0))) (.seq (.draw (bY [0,1,2] (.one 3 (.take 4 (.one 5 (.one 6 (bY [7,8] (.one 9 (.take 10 .fin))))))))) n0))) Tryz.func15 h
def wP(ai:Int)(value:Sl)(w:Wd)(K:Bool->Pw):Prop:=If (decide (((value.len:Int)) > 100)) (cr  w fun f3 h5=>K f3 h5) (jT .nilIface 0 0 0 0 ai w fun a2 b0 e c2 d0 d4 d8 e2 i f5 i4=>af i4 (.cells (dw 0 0 0 0 0 0 0).toArray 33) fun e7 j2=>aP j2 (A0 e7) 9 (ml a2 b0 e c2 d0 d4 d8 e2 i) fun j7=>gp 1 j7 fun f4 f6 g6 g7 g8 g9 h0 h1 h2 j8=>fi .nilIface 0 0 0 0 f4 f6 g6 g7 g8 g9 h0 h1 h2 j8 fun a3 b1 b8 c3 f8 j9=>af j9 (.cells (fh 0 0 0 0).toArray 30) fun e8 k0=>aP k0 (A0 e8) 4 (fh a3 b1 b8 c3) fun k1=>mw .nilIface 0 0 0 0 ai k1 fun a4 b2 b9 c4 f9 k2=>af k2 (.cells (fh 0 0 0 0).toArray 30) fun e9 h6=>aP h6 (A0 e9) 4 (fh a4 b2 b9 c4) fun h7=>fu .nilIface 0 0 0 0 h7 fun _ g0 o=>∃y:Pw,(If (f5 != 1) (K false o) (If (f8 != 1) (K false o) (If (f9 != 1) (K false o) (If (g0 != 1) (K false o) (y o)))))/\∀(_:Env)(e6:Wd),y e6->kA 1 e6 fun n h8=>(0:Int)<=24/\Nm (Int.fdiv ai (2 ^ min (Int.toNat 24) (IntKind.bits .u32))) fun k3=>Ar .u8 k3 fun k4=>(0:Int)<=16/\Nm (Int.fdiv ai (2 ^ min (Int.toNat 16) (IntKind.bits .u32))) fun k5=>Ar .u8 k5 fun k6=>(0:Int)<=8/\Nm (Int.fdiv ai (2 ^ min (Int.toNat 8) (IntKind.bits .u32))) fun k7=>Ar .u8 k7 fun k8=>Ar .u8 ai fun k9=>af h8 (.cells (ab8 k4 k6 k8 k9).toArray 5) fun z h9=>af h9 (.cells [.slice (some (A0 z)) 4 4, value.u,.bool false].toArray 52) fun f0 i0=>gq (.iface 47 (.pointer n)) 0 0 0 0 0 ⟨some (A0 f0),1,1⟩ i0 fun a5 b3 c0 c5 g1 i1=>af i1 (.cells (fh 0 0 0 0).toArray 30) fun m i2=>aP i2 (A0 m) 4 (fh a5 b3 c0 c5) fun i3=>af i3 (.cells [.slice (some (A0 z)) 4 4, value.u,.bool false].toArray 52) fun f1 i5=>gq (.iface 47 (.pointer n)) 9 0 0 0 0 ⟨some (A0 f1),1,1⟩ i5 fun a6 b4 c1 c6 g2 i6=>af i6 (.cells (fh 0 0 0 0).toArray 30) fun d i7=>aP i7 (A0 d) 4 (fh a6 b4 c1 c6) fun p=>jD (Cell p) (A0 m) fun A B M U=>jT (.iface 47 (.pointer n)) A B M U ai p fun a7 b5 f c7 d1 d5 d9 e3 j g3 i8=>af i8 (.cells (dw 0 0 0 0 0 0 0).toArray 33) fun c i9=>aP i9 (A0 c) 9 (ml a7 b5 f c7 d1 d5 d9 e3 j) fun q=>jD (Cell q) (A0 d) fun V W Y Z=>jT (.iface 47 (.pointer n)) V W Y Z ai q fun a8 b6 g c8 d2 d6 e0 e4 k g4 j0=>af j0 (.cells (dw 0 0 0 0 0 0 0).toArray 33) fun f2 j1=>aP j1 (A0 f2) 9 (ml a8 b6 g c8 d2 d6 e0 e4 k) fun r=>jD (Cell r) (A0 d) fun a0 a1 C D=>fu (.iface 47 (.pointer n)) a0 a1 C D r fun _ g5 j3=>iY ai value j3 fun a9 b7 h c9 d3 d7 e1 e5 l f7 j4=>af j4 (.cells (dw 0 0 0 0 0 0 0).toArray 33) fun b j5=>aP j5 (A0 b) 9 (ml a9 b7 h c9 d3 d7 e1 e5 l) fun a=>If (g1 == 0) (If (g2 == 0) (If (g3 == f7) (dr (Cell a) (A0 c) fun E F s G H I J L t=>dr (Cell a) (A0 b) fun N O u P Q R S T v=>dz E F s G H I J L t N O u P Q R S T v a fun h3 x=>If h3 (If (g4 == 150) (If (g5 == 150) (cr  x fun h4 j6=>K h4 j6) (K false x)) (K false x)) (K false x)) (K false a)) (K false a)) (K false a))
def wQ:wj:=(qz (.seq (qz (.cond (qz n0) n0)) (qz (qz (qz (qz (.join [] 295129890780843343888 (qz (.cond (qz n0) n0)) (qz (qz (qz (qz (qz (qz (qz (qz (qz n0))))))))))))))))
theorem wR{ai:Int}{value:Sl}{w:Wd}{K:Bool->Pw}(h:wP ai value w K):jR ai value w K:=
 YF PK wQ [.int .u32 ai,.slice value.a value.len value.cap] [.one (.bool)] K w Tryz.func4 h
theorem Cx{x0 x1:Int}{x2:Sl}{x3 x4:Int}{x5 x6 x7:Int}{x8:Sl}{w:Wd}{K:Bool->Pw}(h:af w (.cells (ml x0 x1 x2 x3 x4 x5 x6 x7 x8).toArray 33) fun d l=>∃f:Sl,Cell l ((A0 d).add 2) f.u/\∃g:Sl,Cell l ((A0 d).add 8) g.u/\Ar .i64 (((f.len:Int))+((g.len:Int))) fun r=>∃k:Nat->Int->Int->Pw,(∃q,k q r 0 l)/\∀(_:Env)(n:Nat)(e:Int)(a:Int)(c:Wd),k n e a c->∃m:Pw,(∃h:Sl,Cell c ((A0 d).add 8) h.u/\If (decide (a < ((h.len:Int)))) (If (decide (a < 100)) (m c) (K (decide (e > 5000)) c)) (K (decide (e > 5000)) c))/\∀(_:Env)(j:Wd),m j->∃b:Sl,Cell j ((A0 d).add 8) b.u/\Ix b.a b.len a 3 fun p=>∃i:Sl,Cell j (p.add 2) i.u/\Ar .i64 (e+((i.len:Int))) fun s=>Ar .i64 (a+1) fun t=>∃o,o < n/\k o s t j):g_ x0 x1 x2 x3 x4 x5 x6 x7 x8 w K:=cu PK (qz (qz (.seq (qz (.block (.loop [(3,.int .i64),(4,.int .i64)] 4294963224 (.join [] 2093056 (qz (.cond n0 n0)) (.seq (.block n0) n0))))) (qz n0)))) Tryz.func19 h
theorem Fb{x0 x1:Int}{x2:Sl}{x3 x4:Int}{x5 x6 x7:Int}{x8:Sl}{w:Wd}{K:Int->Int->Sl->Int->Int->Int->Int->Int->Sl->Pw}(h:af w (.cells (ml x0 x1 x2 x3 x4 x5 x6 x7 x8).toArray 33) fun c b1=>af b1 (.cells (dw 0 0 0 0 0 0 0).toArray 33) fun d f=>dr (Cell f) (A0 c) fun z A i J L M N O k=>af f (.cells (dw 0 0 0 0 0 0 0).toArray 33) fun b b8=>aP b8 (A0 b) 9 (ml z A i J L M N O k) fun b9=>af b9 (.cells [].toArray 5) fun a7 a6=>∃n:Sl,Cell a6 ((A0 c).add 2) n.u/\bg pz 23 23 ⟨some (A0 a7),0,0⟩ n.u (fun Q c0=>aQ c0 ((A0 b).add 2) Q.u fun c1=>aQ c1 ((A0 b).add 8) (.slice none 0 0) fun c2=>∃x:Nat->Int->Pw,(∃b0,x b0 0 c2)/\∀(_:Env)(a3:Nat)(t:Int)(a:Wd),x a3 t a->∃u:Sl,Cell a ((A0 c).add 8) u.u/\If (decide (t < ((u.len:Int)))) (∃p:Sl,Cell a ((A0 c).add 8) p.u/\Ix p.a p.len t 3 fun y=>Oi (Cell a) y fun P B g=>af a (.cells (Oh 0 0).toArray 76) fun l b2=>aP b2 (A0 l) 3 (tC P B g) fun b3=>af b3 (.cells [].toArray 5) fun a8 a5=>∃o:Sl,Cell a5 ((A0 l).add 2) o.u/\bg pz 23 23 ⟨some (A0 a8),0,0⟩ o.u (fun R b4=>aQ b4 ((A0 l).add 2) R.u fun q=>∃v:Sl,Cell q ((A0 b).add 8) v.u/\Oi (Cell q) (A0 l) fun T U m=>af q (.cells (tC T U m).toArray 76) fun a9 b5=>bg pz 31 31 v (.slice (some (A0 a9)) 1 1) (fun S b6=>aQ b6 ((A0 b).add 8) S.u fun b7=>Ar .i64 (t+1) fun c3=>∃a4,a4 < a3/\x a4 c3 b7) b5) a5) (dr (Cell a) (A0 b) fun C D h E F G H I j=>aP a (A0 d) 9 (ml C D h E F G H I j) fun e=>dr (Cell e) (A0 d) fun V W r Y Z a0 a1 a2 s=>K V W r Y Z a0 a1 a2 s e)) a6):lM x0 x1 x2 x3 x4 x5 x6 x7 x8 w K:=cu PK (qz (qz (qz (qz (.seq (qz (.block (.loop [(4,.int .i64)] 68719468592 (.seq (qz (.cond n0 n0)) (.seq (.block (qz (qz n0))) n0))))) (qz n0)))))) Tryz.func20 h
theorem Cy{x0 x1:Int}{x2:Sl}{y0 y1:Int}{y2:Sl}{w:Wd}{K:Bool->Pw}(h:af w (.cells (tC x0 x1 x2).toArray 76) fun d k=>af k (.cells (tC y0 y1 y2).toArray 76) fun e a=>∃f:Int,Cell a (A0 d) (.int .u16 f)/\∃g:Int,Cell a (A0 e) (.int .u16 g)/\If (f == g) (∃h:Int,Cell a ((A0 d).add 1) (.int .u64 h)/\∃i:Int,Cell a ((A0 e).add 1) (.int .u64 i)/\If (h == i) (∃b:Sl,Cell a ((A0 d).add 2) b.u/\∃c:Sl,Cell a ((A0 e).add 2) c.u/\df b c a fun j l=>K j l) (K false a)) (K false a)):nN x0 x1 x2 y0 y1 y2 w K:=cu PK (qz (qz n0)) Tryz.func65 h
theorem Cz{x0 x1:Int}{x2:Sl}{y0 y1:Int}{y2:Sl}{w:Wd}{rd:Bool}{K:Bool->Pw}{X:PX}(h:nN x0 x1 x2 y0 y1 y2 w K):aD pz rd (.func (.func 65) #[] #[]) [.agg ([.int .u16 x0,.int .u64 x1,.slice x2.a x2.len x2.cap]).toArray,.agg ([.int .u16 y0,.int .u64 y1,.slice y2.a y2.len y2.cap]).toArray] [yG] K X w:=tA h
theorem dt{s1 s2:Sl}{eq:Value}{w:Wd}{K:Bool->Pw}(h:If (((s1.len:Int)) != ((s2.len:Int))) (K false w) (∃k:Nat->Int->Pw,(∃z,k z 0 w)/\∀(_:Env)(v:Nat)(g:Int)(f:Wd),k v g f->If (decide (g < ((s1.len:Int)))) (Ix s1.a s1.len g 3 fun l=>Oi (Cell f) l fun n o a=>af f (.cells (Oh 0 0).toArray 76) fun h B=>aP B (A0 h) 3 (tC n o a) fun j=>Ix s2.a s2.len g 3 fun m=>Oi (Cell j) m fun p q b=>af j (.cells (Oh 0 0).toArray 76) fun i C=>aP C (A0 i) 3 (tC p q b) fun c=>Oi (Cell c) (A0 h) fun s t e=>Oi (Cell c) (A0 i) fun u r d=>aD pz true eq [.agg ((tC s t e)).toArray,.agg ((tC u r d)).toArray] [yG] (fun A y=>If (!A) (K false y) (Ar .i64 (g+1) fun D=>∃x,x < v/\k x D y)) cc c) (K true f))):aZ s1 s2 eq w K:=cu PK (qz (.seq (qz (.cond (qz n0) n0)) (.seq (qz (.block (.loop [(17,.int .i64)] 4294837184 (qz (.seq (.cond n0 n0) (.seq (.block (qz (qz (qz (.cond (qz n0) n0))))) n0)))))) (qz n0)))) Tryz.func64 h
theorem Ha{a0 a1:Int}{a2:Sl}{a3 a4:Int}{a5 a6 a7:Int}{a8:Sl}{b0 b1:Int}{b2:Sl}{b3 b4:Int}{b5 b6 b7:Int}{b8:Sl}{w:Wd}{K:Bool->Pw}(h:af w (.cells (ml a0 a1 a2 a3 a4 a5 a6 a7 a8).toArray 33) fun b z=>af z (.cells (ml b0 b1 b2 b3 b4 b5 b6 b7 b8).toArray 33) fun c d=>∃q:Int,Cell d (A0 b) (.int .u32 q)/\∃r:Int,Cell d (A0 c) (.int .u32 r)/\If (q == r) (∃s:Int,Cell d ((A0 b).add 1) (.int .i64 s)/\∃t:Int,Cell d ((A0 c).add 1) (.int .i64 t)/\If (s == t) (∃e:Sl,Cell d ((A0 b).add 2) e.u/\∃f:Sl,Cell d ((A0 c).add 2) f.u/\df e f d fun x a=>If x (jD (Cell a) ((A0 b).add 3) fun i j k l=>jD (Cell a) ((A0 c).add 3) fun m n o p=>If (((i == m) && ((j == n) && ((k == o) && (true)))) && ((l == p) && (true))) (∃u:Int,Cell a ((A0 b).add 7) (.int .i64 u)/\∃v:Int,Cell a ((A0 c).add 7) (.int .i64 v)/\If (u == v) (∃g:Sl,Cell a ((A0 b).add 8) g.u/\∃h:Sl,Cell a ((A0 c).add 8) h.u/\aZ g h (.func (.func 65) #[] #[]) a fun y A=>K y A) (K false a)) (K false a)) (K false a)) (K false d)) (K false d)):iL a0 a1 a2 a3 a4 a5 a6 a7 a8 b0 b1 b2 b3 b4 b5 b6 b7 b8 w K:=cu PK (qz (qz n0)) Tryz.func25 h
def wS(a0 a1:Int)(a2:Sl)(a3 a4:Int)(a5 a6 a7:Int)(a8:Sl)(b0 b1:Int)(b2:Sl)(b3 b4:Int)(b5 b6 b7:Int)(b8:Sl)(w:Wd)(K:Bool->Pw):Prop:=af w (.cells (ml a0 a1 a2 a3 a4 a5 a6 a7 a8).toArray 33) fun b l1=>af l1 (.cells (ml b0 b1 b2 b3 b4 b5 b6 b7 b8).toArray 33) fun c e=>∃I:Pw,(dr (Cell e) (A0 b) fun J L j c6 d5 e4 f3 g2 y=>g_ J L j c6 d5 e4 f3 g2 y e fun j2 d=>If j2 (cr  d fun k2 l2=>K k2 l2) (dr (Cell d) (A0 c) fun h8 M h T U V W Y i=>g_ h8 M h T U V W Y i d fun k3 j0=>If k3 (cr  j0 fun k4 l3=>K k4 l3) (I j0)))/\∀(_:Env)(G:Wd),I G->∃a:Pw,a (aa G)/\dr (ae a) (A0 b) fun Z a9 k b9 c0 c1 c2 c3 l=>dr (ae a) (A0 c) fun c4 c5 m c7 c8 c9 d0 d1 n=>dr (ae a) (A0 b) fun d2 d3 o d4 d6 d7 d8 d9 p=>dr (ae a) (A0 c) fun e0 e1 q e2 e3 e5 e6 e7 r=>iL Z a9 k b9 c0 c1 c2 c3 l c4 c5 m c7 c8 c9 d0 d1 n (aa G) fun k5 j1=>a j1/\dz d2 d3 o d4 d6 d7 d8 d9 p e0 e1 q e2 e3 e5 e6 e7 r j1 fun k6 H=>a H/\If (k5 == k6) (dr (ae a) (A0 c) fun e8 e9 s f0 f1 f2 f4 f5 t=>dr (ae a) (A0 b) fun f6 f7 u f8 f9 g0 g1 g3 v=>dr (ae a) (A0 b) fun g4 g5 x g6 g7 g8 g9 h0 z=>dr (ae a) (A0 c) fun h1 h2 A h3 h4 h5 h6 h7 B=>iL e8 e9 s f0 f1 f2 f4 f5 t f6 f7 u f8 f9 g0 g1 g3 v H fun k7 i7=>a i7/\dz g4 g5 x g6 g7 g8 g9 h0 z h1 h2 A h3 h4 h5 h6 h7 B i7 fun k8 E=>a E/\If (k7 == k8) (dr (ae a) (A0 b) fun h9 i0 C i1 i2 i3 i4 i5 D=>dr (ae a) (A0 b) fun i6 N f O P Q R S g=>lM i6 N f O P Q R S g E fun j3 j4 j5 j6 j7 j8 j9 k0 k1 i8=>a i8/\iL h9 i0 C i1 i2 i3 i4 i5 D j3 j4 j5 j6 j7 j8 j9 k0 k1 i8 fun k9 F=>a F/\If k9 (cr  F fun l0 i9=>a i9/\K l0 i9) (K false F)) (K false E)) (K false H)
def wT:wj:=(qz (.join [] 4080 (qz (.cond (qz n0) n0)) (.seq (.draw (bY [0,1,3,4] (.one 2 (.one 5 (bY [6,7,8,9,11,12] (.one 10 (.one 13 (bY [14,15,16,17,18] (.one 19 (.one 20 (bY [21,22] (.one 23 (bY [24,25] .fin))))))))))))) n0)))
theorem wU{a0 a1:Int}{a2:Sl}{a3 a4:Int}{a5 a6 a7:Int}{a8:Sl}{b0 b1:Int}{b2:Sl}{b3 b4:Int}{b5 b6 b7:Int}{b8:Sl}{w:Wd}{K:Bool->Pw}(h:wS a0 a1 a2 a3 a4 a5 a6 a7 a8 b0 b1 b2 b3 b4 b5 b6 b7 b8 w K):jS a0 a1 a2 a3 a4 a5 a6 a7 a8 b0 b1 b2 b3 b4 b5 b6 b7 b8 w K:=
 YF PK wT [.agg ([.int .u32 a0,.int .i64 a1,.slice a2.a a2.len a2.cap,.int .u32 a3,.int .u64 a4,.int .u16 a5,.int .u8 a6,.int .i64 a7,.slice a8.a a8.len a8.cap]).toArray,.agg ([.int .u32 b0,.int .i64 b1,.slice b2.a b2.len b2.cap,.int .u32 b3,.int .u64 b4,.int .u16 b5,.int .u8 b6,.int .i64 b7,.slice b8.a b8.len b8.cap]).toArray] [.one (.bool)] K w Tryz.func6 h
theorem AD{mv:Option Addr}{ai kind:Int}{level r0:Int}{r1 r2:Int}{w:Wd}{K:Sl->Int->Pw}(h:af w (.cells (iT r0 r1 r2).toArray 28) fun d g=>If (Option.isNone mv) (K ⟨none,0,0⟩ 1 g) (∃a:Pw,a (aa g)/\Nn mv fun s=>∃q:Option Nat,ae a s (.map q)/\∃r:Int,ae a (A0 d) (.int .u32 r)/\∃e:Option Addr,∃b,Sem.run pz (Instr.lookup 95 (.map q) (.int .u32 r) false) ((aa g)) = .ok (.pointer e) b/\a b/\If (Option.isNone e) (K ⟨none,0,0⟩ 7 b) (∃a:Pw,a (aa b)/\Nn e fun c=>acb (ae a) c fun h i j k l m=>mn (ae a) (A0 d) fun n o p=>If (!((h == ai) && ((i == kind) && ((j == level) && (((k == n) && ((l == o) && ((m == p) && (true)))) && (true)))))) (K ⟨none,0,0⟩ 150 ((aa b))) (Nn e fun t=>∃f:Sl,Cell (aa b) (t.add 6) f.u/\dE f (aa b) fun u v=>K u 0 v)))):je mv ai kind level r0 r1 r2 w K:=cu PK (qz (.seq (qz (.cond (qz n0) n0)) (.seq (.draw (bY [0,1,2,3,4,5] (.one 6 (.take 7 .fin)))) (.seq (.block (qz (.cond (qz n0) (.seq (.draw (bY [0,1,2,3,4,5,6,7,8,9,10] .fin)) (.cond (qz n0) n0))))) (qz n0))))) Tryz.func225 h
theorem jg {mv : Option Addr} {ai : Int} {kind : Int} {level : Int} {r0 : Int} {r1 : Int} {r2 : Int} {w : Wd} {K : Sl → Int → Wd → Prop} {X : PX} (h : je mv ai kind level r0 r1 r2 w K) : oh pz (.iface 47 (.pointer mv)) "Get" [.int .u32 ai,.int .u8 kind,.int .u8 level,.agg ([.int .u32 r0,.int .u64 r1,.int .u16 r2]).toArray] [.one (.sl),.one (.int .i64)] K X w:=
  mkI (f:=225) (ars:=#[.pointer mv,.int .u32 ai,.int .u8 kind,.int .u8 level,.agg ([.int .u32 r0,.int .u64 r1,.int .u16 r2]).toArray]) (by kernel_rfl) (by kernel_rfl) h
theorem AE{mv:Option Addr}{ai kind level:Int}{bP:Sl}{w:Wd}{K:Int->Int->Int->Int->Pw}(h:af w (.cells (iT 0 0 0).toArray 28) fun b q=>If (Option.isNone mv) (aP q (A0 b) 3 (iT 0 0 0) fun g=>mn (Cell g) (A0 b) fun t u z=>K t u z 1 g) (If (((bP.len:Int)) != 224) (aP q (A0 b) 3 (iT 0 0 0) fun h=>mn (Cell h) (A0 b) fun A B C=>K A B C 2 h) (∃j:Nat->Int->Pw,(∃U,j U 2 q)/\∀(_:Env)(G:Nat)(d:Int)(r:Wd),j G d r->Nn mv fun P=>∃J:Option Nat,Cell r P (.map J)/\∃I:Option Addr,∃i,Sem.run pz (Instr.lookup 95 (.map J) (.int .u32 d) false) r = .ok (.pointer I) i/\If (!(Option.isNone I)) (Ar .u32 (d+1) fun V=>∃H,H < G/\j H V i) (∃a:Pw,a (aa i)/\Nn mv fun Q=>∃o:Int,ae a (Q.add 1) (.int .u64 o)/\Nn mv fun R=>∃p:Int,ae a (R.add 2) (.int .u16 p)/\af (aa i) (.cells (iT 0 0 0).toArray 28) fun c M=>a M/\aP M (A0 c) 3 (iT d o p) fun s=>a s/\∃a:Pw,a (aa s)/\Nn mv fun S=>∃L:Option Nat,ae a S (.map L)/\mn (ae a) (A0 c) fun D E F=>dE bP (aa s) fun n N=>a N/\af N (.cells (ab9 ai kind level D E F n false).toArray 128) fun T O=>a O/\∃e,Sem.run pz (Instr.mapUpdate 95 (.map L) (.int .u32 d) (.pointer (some (A0 T)))) O = .ok () e/\a e/\mn (Cell e) (A0 c) fun m k l=>aP e (A0 b) 3 (iT m k l) fun f=>mn (Cell f) (A0 b) fun v x y=>K v x y 0 f)))):mA mv ai kind level bP w K:=cu PK (qz (.seq (.block (qz (.cond (qz n0) (qz (.cond (qz n0) n0))))) (qz (.seq (.block (.loop [(12,.int .u32)] 4286582784 (.seq (qz (.cond n0 n0)) (.block n0)))) (.seq (.draw (bY [0,1,2,3,4,5,6,7,8,9] (.one 10 (.one 11 .fin)))) (.seq (.draw (bY [0,1,2,3,4,5,6,7,8,9,10] (.one 11 (.take 12 (.one 13 (.one 14 .fin)))))) (qz n0))))))) Tryz.func226 h
theorem qV {mv : Option Addr} {ai : Int} {kind : Int} {level : Int} {bP : Sl} {w : Wd} {K : Int → Int → Int → Int → Wd → Prop} {X : PX} (h : mA mv ai kind level bP w K) : oh pz (.iface 47 (.pointer mv)) "Put" [.int .u32 ai,.int .u8 kind,.int .u8 level,.slice bP.a bP.len bP.cap] [.agg [.one (.int .u32),.one (.int .u64),.one (.int .u16)],.one (.int .i64)] K X w:=
  mkI (f:=226) (ars:=#[.pointer mv,.int .u32 ai,.int .u8 kind,.int .u8 level,.slice bP.a bP.len bP.cap]) (by kernel_rfl) (by kernel_rfl) h
theorem zt{mv:Option Addr}{r0 r1 r2:Int}{w:Wd}{K:Int->Pw}(h:af w (.cells (iT r0 r1 r2).toArray 28) fun c g=>If (Option.isNone mv) (K 1 g) (∃a:Pw,a (aa g)/\Nn mv fun x=>∃p:Option Nat,ae a x (.map p)/\∃q:Int,ae a (A0 c) (.int .u32 q)/\∃d:Option Addr,∃b,Sem.run pz (Instr.lookup 95 (.map p) (.int .u32 q) false) ((aa g)) = .ok (.pointer d) b/\a b/\∃i:Pw,(∃a:Pw,a (aa b)/\If (Option.isNone d) (K 7 ((aa b))) (Nn d fun y=>∃r:Bool,ae a (y.add 7) (.bool r)/\If r (K 7 ((aa b))) (Nn d fun f=>mn (ae a) (f.add 3) fun j k l=>mn (ae a) (A0 c) fun m n o=>If (!((j == m) && ((k == n) && ((l == o) && (true))))) (K 7 ((aa b))) (i ((aa b))))))/\∀(_:Env)(e:Wd),i e->∃a:Pw,a (aa e)/\∃s:Int,ae a ((A0 c).add 1) (.int .u64 s)/\Nn mv fun z=>∃t:Int,ae a (z.add 1) (.int .u64 t)/\If (s == t) (∃a:Pw,a (aa (aa e))/\Nn mv fun A=>∃u:Option Nat,ae a A (.map u)/\∃v:Int,ae a (A0 c) (.int .u32 v)/\∃h,Sem.run pz (Builtin.delete_ #[95,22] 0 #[.map u,.int .u32 v]) ((aa (aa e))) = .ok (.tuple #[]) h/\a h/\K 0 h) (Nn d fun B=>aQ (aa e) (B.add 7) (.bool true) fun C=>K 0 C))):lk mv r0 r1 r2 w K:=cu PK (qz (.seq (qz (.cond (qz n0) n0)) (.seq (.draw (bY [0,1,2,3,4,5] (.one 6 (.take 7 .fin)))) (.join [] 4294934544 (.seq (.draw (bY [0,1,2,3,4,5,6,7,8,9,10,11,12,13,14,15,16] .fin)) (.cond (qz n0) n0)) (.seq (.seq (.draw (bY [0,1,2,3,4,5,6] .fin)) (.cond (.seq (.draw (bY [0,1,2,3,4,5] (.one 6 .fin))) (qz n0)) n0)) (qz (qz n0))))))) Tryz.func224 h
theorem lC {mv : Option Addr} {r0 : Int} {r1 : Int} {r2 : Int} {w : Wd} {K : Int → Wd → Prop} {X : PX} (h : lk mv r0 r1 r2 w K) : oh pz (.iface 47 (.pointer mv)) "Drop" [.agg ([.int .u32 r0,.int .u64 r1,.int .u16 r2]).toArray] [.one (.int .i64)] K X w:=
  mkI (f:=224) (ars:=#[.pointer mv,.agg ([.int .u32 r0,.int .u64 r1,.int .u16 r2]).toArray]) (by kernel_rfl) (by kernel_rfl) h
def CA(ai:Int)(b:Sl)(w:Wd)(K:Int->Int->Sl->Int->Int->Int->Int->Int->Sl->Int->Pw):Prop:=
 af w (.cells (dw 0 0 0 0 0 0 0).toArray 33) fun a n1=>
 af n1 (.cells (YN b 0 0).toArray 82) fun f n6=>
 af n6 (.cells (dw 0 0 0 0 0 0 0).toArray 33) fun c o4=>
 aP o4 (A0 c) 9 (dw ai 0 0 0 0 0 0) fun p0=>
 bt (some (A0 f)) p0 fun l2 p1=>
 bt (some (A0 f)) p1 fun l3 p2=>
 eR (some (A0 f)) 16 p2 fun b1 p3=>
 aQ p3 ((A0 c).add 2) b1.u fun p4=>
 bt (some (A0 f)) p4 fun l4 p5=>
 bt (some (A0 f)) p5 fun m7 n2=>
 aQ n2 (((A0 c).add 3).add 1) (.int .u64 m7) fun n3=>
 bt (some (A0 f)) n3 fun l5 n4=>
 bt (some (A0 f)) n4 fun l6 n5=>
 bt (some (A0 f)) n5 fun l7 t=>
 ∃b6:Pw,(
 If (decide (l2 > 1000)) (
 aP t (A0 a) 9 (dw 0 0 0 0 0 0 0) fun g=>
 ∃b7:Int,Cell g (A0 a) (.int .u32 b7)/\
 ∃b8:Int,Cell g ((A0 a).add 1) (.int .i64 b8)/\
 ∃G:Sl,Cell g ((A0 a).add 2) G.u/\
 ∃e9:Int,Cell g ((A0 a).add 3) (.int .u32 e9)/\
 ∃f8:Int,Cell g ((A0 a).add 4) (.int .u64 f8)/\
 ∃g7:Int,Cell g ((A0 a).add 5) (.int .u16 g7)/\
 ∃h6:Int,Cell g ((A0 a).add 6) (.int .u8 h6)/\
 ∃i4:Int,Cell g ((A0 a).add 7) (.int .i64 i4)/\
 ∃V:Sl,Cell g ((A0 a).add 8) V.u/\
 K b7 b8 G e9 f8 g7 h6 i4 V 5 g) (
 If (decide (l3 > 1000)) (
 aP t (A0 a) 9 (dw 0 0 0 0 0 0 0) fun h=>
 ∃k1:Int,Cell h (A0 a) (.int .u32 k1)/\
 ∃b9:Int,Cell h ((A0 a).add 1) (.int .i64 b9)/\
 ∃B:Sl,Cell h ((A0 a).add 2) B.u/\
 ∃c8:Int,Cell h ((A0 a).add 3) (.int .u32 c8)/\
 ∃d6:Int,Cell h ((A0 a).add 4) (.int .u64 d6)/\
 ∃d7:Int,Cell h ((A0 a).add 5) (.int .u16 d7)/\
 ∃d8:Int,Cell h ((A0 a).add 6) (.int .u8 d8)/\
 ∃d9:Int,Cell h ((A0 a).add 7) (.int .i64 d9)/\
 ∃F:Sl,Cell h ((A0 a).add 8) F.u/\
 K k1 b9 B c8 d6 d7 d8 d9 F 5 h) (
 If (decide (l4 > 4294967295)) (
 aP t (A0 a) 9 (dw 0 0 0 0 0 0 0) fun i=>
 ∃e0:Int,Cell i (A0 a) (.int .u32 e0)/\
 ∃e1:Int,Cell i ((A0 a).add 1) (.int .i64 e1)/\
 ∃H:Sl,Cell i ((A0 a).add 2) H.u/\
 ∃e2:Int,Cell i ((A0 a).add 3) (.int .u32 e2)/\
 ∃e3:Int,Cell i ((A0 a).add 4) (.int .u64 e3)/\
 ∃e4:Int,Cell i ((A0 a).add 5) (.int .u16 e4)/\
 ∃e5:Int,Cell i ((A0 a).add 6) (.int .u8 e5)/\
 ∃e6:Int,Cell i ((A0 a).add 7) (.int .i64 e6)/\
 ∃I:Sl,Cell i ((A0 a).add 8) I.u/\
 K e0 e1 H e2 e3 e4 e5 e6 I 5 i) (
 If (decide (l5 > 65535)) (
 aP t (A0 a) 9 (dw 0 0 0 0 0 0 0) fun j=>
 ∃e7:Int,Cell j (A0 a) (.int .u32 e7)/\
 ∃e8:Int,Cell j ((A0 a).add 1) (.int .i64 e8)/\
 ∃J:Sl,Cell j ((A0 a).add 2) J.u/\
 ∃f0:Int,Cell j ((A0 a).add 3) (.int .u32 f0)/\
 ∃f1:Int,Cell j ((A0 a).add 4) (.int .u64 f1)/\
 ∃f2:Int,Cell j ((A0 a).add 5) (.int .u16 f2)/\
 ∃f3:Int,Cell j ((A0 a).add 6) (.int .u8 f3)/\
 ∃f4:Int,Cell j ((A0 a).add 7) (.int .i64 f4)/\
 ∃L:Sl,Cell j ((A0 a).add 8) L.u/\
 K e7 e8 J f0 f1 f2 f3 f4 L 5 j) (
 If (decide (l6 > 255)) (
 aP t (A0 a) 9 (dw 0 0 0 0 0 0 0) fun k=>
 ∃f5:Int,Cell k (A0 a) (.int .u32 f5)/\
 ∃f6:Int,Cell k ((A0 a).add 1) (.int .i64 f6)/\
 ∃M:Sl,Cell k ((A0 a).add 2) M.u/\
 ∃f7:Int,Cell k ((A0 a).add 3) (.int .u32 f7)/\
 ∃f9:Int,Cell k ((A0 a).add 4) (.int .u64 f9)/\
 ∃g0:Int,Cell k ((A0 a).add 5) (.int .u16 g0)/\
 ∃g1:Int,Cell k ((A0 a).add 6) (.int .u8 g1)/\
 ∃g2:Int,Cell k ((A0 a).add 7) (.int .i64 g2)/\
 ∃N:Sl,Cell k ((A0 a).add 8) N.u/\
 K f5 f6 M f7 f9 g0 g1 g2 N 5 k) (
 If (decide (l7 > 2)) (
 aP t (A0 a) 9 (dw 0 0 0 0 0 0 0) fun l=>
 ∃g3:Int,Cell l (A0 a) (.int .u32 g3)/\
 ∃g4:Int,Cell l ((A0 a).add 1) (.int .i64 g4)/\
 ∃O:Sl,Cell l ((A0 a).add 2) O.u/\
 ∃g5:Int,Cell l ((A0 a).add 3) (.int .u32 g5)/\
 ∃g6:Int,Cell l ((A0 a).add 4) (.int .u64 g6)/\
 ∃g8:Int,Cell l ((A0 a).add 5) (.int .u16 g8)/\
 ∃g9:Int,Cell l ((A0 a).add 6) (.int .u8 g9)/\
 ∃h0:Int,Cell l ((A0 a).add 7) (.int .i64 h0)/\
 ∃P:Sl,Cell l ((A0 a).add 8) P.u/\
 K g3 g4 O g5 g6 g8 g9 h0 P 5 l) (
 b6 t)))))))/\∀(_:Env)(m0:Wd),b6 m0->
 Ar .i64 l2 fun p6=>
 aQ m0 ((A0 c).add 1) (.int .i64 p6) fun n7=>
 Ar .i64 l3 fun p7=>
 aQ n7 ((A0 c).add 7) (.int .i64 p7) fun n8=>
 Ar .u32 l4 fun p8=>
 aQ n8 ((A0 c).add 3) (.int .u32 p8) fun n9=>
 Ar .u16 l5 fun p9=>
 aQ n9 (((A0 c).add 3).add 2) (.int .u16 p9) fun o0=>
 Ar .u8 l6 fun q0=>
 aQ o0 (((A0 c).add 3).add 3) (.int .u8 q0) fun o1=>
 ∃a2:Nat->Int->Pw,(∃m3,a2 m3 0 o1)/\∀(_:Env)(l0:Nat)(b0:Int)(b3:Wd),a2 l0 b0 b3->
 If (decide (b0 < l7)) (
 bt (some (A0 f)) b3 fun l8 o2=>
 bt (some (A0 f)) o2 fun l9 o3=>
 eR (some (A0 f)) 32 o3 fun v o5=>
 af o5 (.cells (Oh 0 0).toArray 76) fun x o6=>
 aP o6 (A0 x) 3 (tC 0 l9 v) fun m1=>
 If (decide (l8 > 65535)) (
 aP m1 (A0 a) 9 (dw 0 0 0 0 0 0 0) fun m=>
 ∃h1:Int,Cell m (A0 a) (.int .u32 h1)/\
 ∃h2:Int,Cell m ((A0 a).add 1) (.int .i64 h2)/\
 ∃Q:Sl,Cell m ((A0 a).add 2) Q.u/\
 ∃h3:Int,Cell m ((A0 a).add 3) (.int .u32 h3)/\
 ∃h4:Int,Cell m ((A0 a).add 4) (.int .u64 h4)/\
 ∃h5:Int,Cell m ((A0 a).add 5) (.int .u16 h5)/\
 ∃h7:Int,Cell m ((A0 a).add 6) (.int .u8 h7)/\
 ∃h8:Int,Cell m ((A0 a).add 7) (.int .i64 h8)/\
 ∃R:Sl,Cell m ((A0 a).add 8) R.u/\
 K h1 h2 Q h3 h4 h5 h7 h8 R 5 m) (
 Ar .u16 l8 fun q1=>
 aQ m1 (A0 x) (.int .u16 q1) fun y=>
 ∃a1:Sl,Cell y ((A0 c).add 8) a1.u/\
 ∃h9:Int,Cell y (A0 x) (.int .u16 h9)/\
 ∃i0:Int,Cell y ((A0 x).add 1) (.int .u64 i0)/\
 ∃u:Sl,Cell y ((A0 x).add 2) u.u/\
 af y (.cells (tC h9 i0 u).toArray 76) fun m2 o7=>
 bg pz 31 31 a1 (.slice (some (A0 m2)) 1 1) (fun b2 o8=>
 aQ o8 ((A0 c).add 8) b2.u fun o9=>
 Ar .u64 (b0+1) fun q2=>
 ∃l1,l1 < l0/\a2 l1 q2 o9) o7)) (
 gF (some (A0 f)) b3 fun m4 _ b4=>
 ∃d:Pw,d (aa b4)/\
 If (m4 != 0) (
 aP (aa b4) (A0 a) 9 (dw 0 0 0 0 0 0 0) fun n=>
 ∃i1:Int,Cell n (A0 a) (.int .u32 i1)/\
 ∃i2:Int,Cell n ((A0 a).add 1) (.int .i64 i2)/\
 ∃S:Sl,Cell n ((A0 a).add 2) S.u/\
 ∃i3:Int,Cell n ((A0 a).add 3) (.int .u32 i3)/\
 ∃i5:Int,Cell n ((A0 a).add 4) (.int .u64 i5)/\
 ∃i6:Int,Cell n ((A0 a).add 5) (.int .u16 i6)/\
 ∃i7:Int,Cell n ((A0 a).add 6) (.int .u8 i7)/\
 ∃i8:Int,Cell n ((A0 a).add 7) (.int .i64 i8)/\
 ∃T:Sl,Cell n ((A0 a).add 8) T.u/\
 K i1 i2 S i3 i5 i6 i7 i8 T 5 n) (
 ∃i9:Int,ae d (A0 c) (.int .u32 i9)/\
 ∃j0:Int,ae d ((A0 c).add 1) (.int .i64 j0)/\
 ∃U:Sl,ae d ((A0 c).add 2) U.u/\
 ∃j1:Int,ae d ((A0 c).add 3) (.int .u32 j1)/\
 ∃j2:Int,ae d ((A0 c).add 4) (.int .u64 j2)/\
 ∃j3:Int,ae d ((A0 c).add 5) (.int .u16 j3)/\
 ∃j4:Int,ae d ((A0 c).add 6) (.int .u8 j4)/\
 ∃j5:Int,ae d ((A0 c).add 7) (.int .i64 j5)/\
 ∃W:Sl,ae d ((A0 c).add 8) W.u/\
 kH i9 j0 U j1 j2 j3 j4 j5 W (aa b4) fun m5 b5=>
 d b5/\
 If (!m5) (
 aP b5 (A0 a) 9 (dw 0 0 0 0 0 0 0) fun o=>
 ∃j6:Int,Cell o (A0 a) (.int .u32 j6)/\
 ∃j7:Int,Cell o ((A0 a).add 1) (.int .i64 j7)/\
 ∃Y:Sl,Cell o ((A0 a).add 2) Y.u/\
 ∃j8:Int,Cell o ((A0 a).add 3) (.int .u32 j8)/\
 ∃j9:Int,Cell o ((A0 a).add 4) (.int .u64 j9)/\
 ∃k0:Int,Cell o ((A0 a).add 5) (.int .u16 k0)/\
 ∃k2:Int,Cell o ((A0 a).add 6) (.int .u8 k2)/\
 ∃k3:Int,Cell o ((A0 a).add 7) (.int .i64 k3)/\
 ∃Z:Sl,Cell o ((A0 a).add 8) Z.u/\
 K j6 j7 Y j8 j9 k0 k2 k3 Z 5 o) (
 ∃k4:Int,ae d (A0 c) (.int .u32 k4)/\
 ∃k5:Int,ae d ((A0 c).add 1) (.int .i64 k5)/\
 ∃a0:Sl,ae d ((A0 c).add 2) a0.u/\
 ∃k6:Int,ae d ((A0 c).add 3) (.int .u32 k6)/\
 ∃k7:Int,ae d ((A0 c).add 4) (.int .u64 k7)/\
 ∃k8:Int,ae d ((A0 c).add 5) (.int .u16 k8)/\
 ∃k9:Int,ae d ((A0 c).add 6) (.int .u8 k9)/\
 ∃c0:Int,ae d ((A0 c).add 7) (.int .i64 c0)/\
 ∃z:Sl,ae d ((A0 c).add 8) z.u/\
 iR (ae d) b fun m8=>
 lN k4 k5 a0 k6 k7 k8 k9 c0 z b5 fun m6 e=>
 d e/\
 iR (Cell e) m6 fun m9=>
 d e/\
 If (!(ByteArray.toList m9 == ByteArray.toList m8)) (
 aP e (A0 a) 9 (dw 0 0 0 0 0 0 0) fun p=>
 ∃c1:Int,Cell p (A0 a) (.int .u32 c1)/\
 ∃c2:Int,Cell p ((A0 a).add 1) (.int .i64 c2)/\
 ∃A:Sl,Cell p ((A0 a).add 2) A.u/\
 ∃c3:Int,Cell p ((A0 a).add 3) (.int .u32 c3)/\
 ∃c4:Int,Cell p ((A0 a).add 4) (.int .u64 c4)/\
 ∃c5:Int,Cell p ((A0 a).add 5) (.int .u16 c5)/\
 ∃c6:Int,Cell p ((A0 a).add 6) (.int .u8 c6)/\
 ∃c7:Int,Cell p ((A0 a).add 7) (.int .i64 c7)/\
 ∃C:Sl,Cell p ((A0 a).add 8) C.u/\
 K c1 c2 A c3 c4 c5 c6 c7 C 5 p) (
 ∃a3:Int,Cell e (A0 c) (.int .u32 a3)/\
 ∃a4:Int,Cell e ((A0 c).add 1) (.int .i64 a4)/\
 ∃r:Sl,Cell e ((A0 c).add 2) r.u/\
 ∃a5:Int,Cell e ((A0 c).add 3) (.int .u32 a5)/\
 ∃a6:Int,Cell e ((A0 c).add 4) (.int .u64 a6)/\
 ∃a7:Int,Cell e ((A0 c).add 5) (.int .u16 a7)/\
 ∃a8:Int,Cell e ((A0 c).add 6) (.int .u8 a8)/\
 ∃a9:Int,Cell e ((A0 c).add 7) (.int .i64 a9)/\
 ∃s:Sl,Cell e ((A0 c).add 8) s.u/\
 aP e (A0 a) 9 (ml a3 a4 r a5 a6 a7 a8 a9 s) fun q=>
 ∃c9:Int,Cell q (A0 a) (.int .u32 c9)/\
 ∃d0:Int,Cell q ((A0 a).add 1) (.int .i64 d0)/\
 ∃D:Sl,Cell q ((A0 a).add 2) D.u/\
 ∃d1:Int,Cell q ((A0 a).add 3) (.int .u32 d1)/\
 ∃d2:Int,Cell q ((A0 a).add 4) (.int .u64 d2)/\
 ∃d3:Int,Cell q ((A0 a).add 5) (.int .u16 d3)/\
 ∃d4:Int,Cell q ((A0 a).add 6) (.int .u8 d4)/\
 ∃d5:Int,Cell q ((A0 a).add 7) (.int .i64 d5)/\
 ∃E:Sl,Cell q ((A0 a).add 8) E.u/\
 K c9 d0 D d1 d2 d3 d4 d5 E 0 q))))
theorem CB{ai:Int}{b:Sl}{w:Wd}{K:Int->Int->Sl->Int->Int->Int->Int->Int->Sl->Int->Pw}(h:CA ai b w K):iY ai b w K:=cu PK (qz (qz (qz (qz (qz (qz (qz (qz (qz (qz (qz (.join [] 73786967498745184288 (qz (.cond (qz n0) n0)) (qz (qz (qz (qz (qz (.seq (qz (.block (.loop [(14,.int .u64)] 1298074137262454451796356901160992 (.seq (qz (.cond n0 n0)) (.seq (.block (qz (qz (.seq (qz (.cond (qz n0) n0)) (qz n0))))) n0))))) (qz (.seq (.seq (.draw (bY [0,1,2,3] (.one 4 (bY [5,6,7,8,11,12] (.one 9 (.one 10 (bY [13,14] .fin))))))) (.cond (qz n0) n0)) (qz n0))))))))))))))))))))) Tryz.func10 h
def AF  (w:Wd) (K:Bool->Pw):Prop:=
 kA 1 w fun i d3=>
 gp 5 d3 fun a2 a5 b2 b5 b8 c1 c4 c7 d0 d4=>
 fi (.iface 47 (.pointer i)) 0 0 0 0 a2 a5 b2 b5 b8 c1 c4 c7 d0 d4 fun C F I M P d5=>
 af d5 (.cells (fh 0 0 0 0).toArray 30) fun a d6=>
 aP d6 (A0 a) 4 (fh C F I M) fun d=>
 ∃b:Pw,b (aa d)/\
 (
 ∃l:Int,Cell (aa d) (A0 a) (.int .u32 l)/\
 ∃m:Int,Cell (aa d) ((A0 a).add 1) (.int .u64 m)/\
 ∃t:Int,Cell (aa d) ((A0 a).add 2) (.int .u16 t)/\
 ∃u:Int,Cell (aa d) ((A0 a).add 3) (.int .u8 u)/\
 b ((aa d))/\
 gp 3 (aa d) fun a3 a6 b3 b6 b9 c2 c5 c8 d1 V=>
 b V/\
 fi (.iface 47 (.pointer i)) l m t u a3 a6 b3 b6 b9 c2 c5 c8 d1 V fun D G J N a7 W=>
 b W/\
 aP W (A0 a) 4 (fh D G J N) fun h=>
 b h/\
 ∃v:Int,Cell h (A0 a) (.int .u32 v)/\
 ∃x:Int,Cell h ((A0 a).add 1) (.int .u64 x)/\
 ∃y:Int,Cell h ((A0 a).add 2) (.int .u16 y)/\
 ∃z:Int,Cell h ((A0 a).add 3) (.int .u8 z)/\
 fu (.iface 47 (.pointer i)) v x y z h fun j a8 e=>
 If (P == 0) (
 If (a7 == 0) (
 If (a8 == 0) (
 If (((j.len:Int)) == 2) (
 Ix j.a j.len 0 9 fun Y=>
 ∃Q:Int,Cell e Y (.int .u32 Q)/\
 If (Q == 3) (
 Ix j.a j.len 1 9 fun Z=>
 ∃R:Int,Cell e Z (.int .u32 R)/\
 K (R == 5) e) (
 K false e)) (
 K false e)) (
 K false e)) (
 K false e)) (
 K false e))/\(
 gp 3 (aa d) fun a4 a9 b4 b7 c0 c3 c6 c9 d2 f=>
 b f/\
 ∃A:Int,Cell f (A0 a) (.int .u32 A)/\
 ∃B:Int,Cell f ((A0 a).add 1) (.int .u64 B)/\
 ∃n:Int,Cell f ((A0 a).add 2) (.int .u16 n)/\
 ∃o:Int,Cell f ((A0 a).add 3) (.int .u8 o)/\
 b f/\
 fi (.iface 47 (.pointer i)) A B n o a4 a9 b4 b7 c0 c3 c6 c9 d2 f fun E H L O b0 U=>
 b U/\
 aP U (A0 a) 4 (fh E H L O) fun g=>
 b g/\
 ∃p:Int,Cell g (A0 a) (.int .u32 p)/\
 ∃q:Int,Cell g ((A0 a).add 1) (.int .u64 q)/\
 ∃r:Int,Cell g ((A0 a).add 2) (.int .u16 r)/\
 ∃s:Int,Cell g ((A0 a).add 3) (.int .u8 s)/\
 fu (.iface 47 (.pointer i)) p q r s g fun k b1 c=>
 If (P == 0) (
 If (b0 == 0) (
 If (b1 == 0) (
 If (((k.len:Int)) == 2) (
 Ix k.a k.len 0 9 fun a0=>
 ∃S:Int,Cell c a0 (.int .u32 S)/\
 If (S == 3) (
 Ix k.a k.len 1 9 fun a1=>
 ∃T:Int,Cell c a1 (.int .u32 T)/\
 K (T == 5) c) (
 K false c)) (
 K false c)) (
 K false c)) (
 K false c)) (
 K false c))
def AG:wj:=(qz (qz (qz (.seq (.draw (bY [0,1] (.two 2 (.one 3 (.one 4 (bY [5,6,7] (.one 8 (.take 9 .fin))))) 3 (.one 2 (.one 4 (bY [5,6,7] (.one 8 (.take 9 .fin)))))))) (qz (qz n0))))))
theorem AH  {w:Wd} {K:Bool->Pw} (h:AF  w K):cr  w K:=
 YF PK AG [] [.one (.bool)] K w Tryz.func8 h
def tW(x0 x1:Int)(x2:Sl)(x3 x4:Int)(x5 x6 x7:Int)(x8:Sl)(w:Wd)(K:Bool->Pw):Prop:=
 af w (.cells (ml x0 x1 x2 x3 x4 x5 x6 x7 x8).toArray 33) fun b h=>
 ∃a6:Int,Cell h (A0 b) (.int .u32 a6)/\
 ∃a7:Int,Cell h ((A0 b).add 1) (.int .i64 a7)/\
 ∃D:Sl,Cell h ((A0 b).add 2) D.u/\
 ∃f0:Int,Cell h ((A0 b).add 3) (.int .u32 f0)/\
 ∃f9:Int,Cell h ((A0 b).add 4) (.int .u64 f9)/\
 ∃g8:Int,Cell h ((A0 b).add 5) (.int .u16 g8)/\
 ∃h7:Int,Cell h ((A0 b).add 6) (.int .u8 h7)/\
 ∃i6:Int,Cell h ((A0 b).add 7) (.int .i64 i6)/\
 ∃S:Sl,Cell h ((A0 b).add 8) S.u/\
 g_ a6 a7 D f0 f9 g8 h7 i6 S h fun n8 g=>
 If n8 (
 cr  g fun o0 p8=>
 K o0 p8) (
 ∃k2:Int,Cell g (A0 b) (.int .u32 k2)/\
 ∃a8:Int,Cell g ((A0 b).add 1) (.int .i64 a8)/\
 ∃u:Sl,Cell g ((A0 b).add 2) u.u/\
 ∃c4:Int,Cell g ((A0 b).add 3) (.int .u32 c4)/\
 ∃d3:Int,Cell g ((A0 b).add 4) (.int .u64 d3)/\
 ∃d8:Int,Cell g ((A0 b).add 5) (.int .u16 d8)/\
 ∃d9:Int,Cell g ((A0 b).add 6) (.int .u8 d9)/\
 ∃e0:Int,Cell g ((A0 b).add 7) (.int .i64 e0)/\
 ∃C:Sl,Cell g ((A0 b).add 8) C.u/\
 lM k2 a8 u c4 d3 d8 d9 e0 C g fun m0 m1 m m3 m4 m5 m6 m7 n p9=>
 af p9 (.cells (dw 0 0 0 0 0 0 0).toArray 33) fun c q0=>
 aP q0 (A0 c) 9 (ml m0 m1 m m3 m4 m5 m6 m7 n) fun i=>
 ∃e1:Int,Cell i (A0 c) (.int .u32 e1)/\
 ∃e2:Int,Cell i ((A0 c).add 1) (.int .i64 e2)/\
 ∃E:Sl,Cell i ((A0 c).add 2) E.u/\
 ∃e3:Int,Cell i ((A0 c).add 3) (.int .u32 e3)/\
 ∃e4:Int,Cell i ((A0 c).add 4) (.int .u64 e4)/\
 ∃e5:Int,Cell i ((A0 c).add 5) (.int .u16 e5)/\
 ∃e6:Int,Cell i ((A0 c).add 6) (.int .u8 e6)/\
 ∃e7:Int,Cell i ((A0 c).add 7) (.int .i64 e7)/\
 ∃F:Sl,Cell i ((A0 c).add 8) F.u/\
 de e1 e2 E e3 e4 e5 e6 e7 F i fun j m2 n3=>
 ∃a5:Pw,(
 ∃a:Pw,a (aa n3)/\
 ∃e8:Int,ae a (A0 c) (.int .u32 e8)/\
 ∃e9:Int,ae a ((A0 c).add 1) (.int .i64 e9)/\
 ∃G:Sl,ae a ((A0 c).add 2) G.u/\
 ∃f1:Int,ae a ((A0 c).add 3) (.int .u32 f1)/\
 ∃f2:Int,ae a ((A0 c).add 4) (.int .u64 f2)/\
 ∃f3:Int,ae a ((A0 c).add 5) (.int .u16 f3)/\
 ∃f4:Int,ae a ((A0 c).add 6) (.int .u8 f4)/\
 ∃f5:Int,ae a ((A0 c).add 7) (.int .i64 f5)/\
 ∃H:Sl,ae a ((A0 c).add 8) H.u/\
 ∃f6:Int,ae a (A0 b) (.int .u32 f6)/\
 ∃f7:Int,ae a ((A0 b).add 1) (.int .i64 f7)/\
 ∃I:Sl,ae a ((A0 b).add 2) I.u/\
 ∃f8:Int,ae a ((A0 b).add 3) (.int .u32 f8)/\
 ∃g0:Int,ae a ((A0 b).add 4) (.int .u64 g0)/\
 ∃g1:Int,ae a ((A0 b).add 5) (.int .u16 g1)/\
 ∃g2:Int,ae a ((A0 b).add 6) (.int .u8 g2)/\
 ∃g3:Int,ae a ((A0 b).add 7) (.int .i64 g3)/\
 ∃J:Sl,ae a ((A0 b).add 8) J.u/\
 pt e8 e9 G f1 f2 f3 f4 f5 H (aa n3) fun o3 n4=>
 a n4/\
 kH f6 f7 I f8 g0 g1 g2 g3 J n4 fun o4 a3=>
 a a3/\
 If (!(o3 == o4)) (
 K false a3) (
 ∃g4:Int,ae a (A0 c) (.int .u32 g4)/\
 ∃g5:Int,ae a ((A0 c).add 1) (.int .i64 g5)/\
 ∃L:Sl,ae a ((A0 c).add 2) L.u/\
 ∃g6:Int,ae a ((A0 c).add 3) (.int .u32 g6)/\
 ∃g7:Int,ae a ((A0 c).add 4) (.int .u64 g7)/\
 ∃g9:Int,ae a ((A0 c).add 5) (.int .u16 g9)/\
 ∃h0:Int,ae a ((A0 c).add 6) (.int .u8 h0)/\
 ∃h1:Int,ae a ((A0 c).add 7) (.int .i64 h1)/\
 ∃M:Sl,ae a ((A0 c).add 8) M.u/\
 ∃h2:Int,ae a (A0 b) (.int .u32 h2)/\
 ∃h3:Int,ae a ((A0 b).add 1) (.int .i64 h3)/\
 ∃N:Sl,ae a ((A0 b).add 2) N.u/\
 ∃h4:Int,ae a ((A0 b).add 3) (.int .u32 h4)/\
 ∃h5:Int,ae a ((A0 b).add 4) (.int .u64 h5)/\
 ∃h6:Int,ae a ((A0 b).add 5) (.int .u16 h6)/\
 ∃h8:Int,ae a ((A0 b).add 6) (.int .u8 h8)/\
 ∃h9:Int,ae a ((A0 b).add 7) (.int .i64 h9)/\
 ∃O:Sl,ae a ((A0 b).add 8) O.u/\
 dz g4 g5 L g6 g7 g9 h0 h1 M h2 h3 N h4 h5 h6 h8 h9 O a3 fun o5 a0=>
 a a0/\
 If (!o5) (
 K false a0) (
 a5 a0)))/\∀(_:Env)(f:Wd),a5 f->
 ∃i0:Int,Cell f (A0 b) (.int .u32 i0)/\
 ∃i1:Int,Cell f ((A0 b).add 1) (.int .i64 i1)/\
 ∃P:Sl,Cell f ((A0 b).add 2) P.u/\
 ∃i2:Int,Cell f ((A0 b).add 3) (.int .u32 i2)/\
 ∃i3:Int,Cell f ((A0 b).add 4) (.int .u64 i3)/\
 ∃i4:Int,Cell f ((A0 b).add 5) (.int .u16 i4)/\
 ∃i5:Int,Cell f ((A0 b).add 6) (.int .u8 i5)/\
 ∃i7:Int,Cell f ((A0 b).add 7) (.int .i64 i7)/\
 ∃Q:Sl,Cell f ((A0 b).add 8) Q.u/\
 kH i0 i1 P i2 i3 i4 i5 i7 Q f fun o6 p=>
 If (!o6) (
 If (m2 == 2) (
 If (((j.len:Int)) == 0) (
 cr  p fun o7 p3=>
 K o7 p3) (
 K false p)) (
 K false p)) (
 ∃m8:Int,Cell p (A0 b) (.int .u32 m8)/\
 fW m8 j p fun l3 l4 k l5 l6 l7 l8 l9 l n9 p4=>
 af p4 (.cells (dw 0 0 0 0 0 0 0).toArray 33) fun d p5=>
 aP p5 (A0 d) 9 (ml l3 l4 k l5 l6 l7 l8 l9 l) fun q=>
 ∃a4:Pw,(
 ∃a:Pw,a (aa q)/\
 If (m2 != 0) (
 K false ((aa q))) (
 If (n9 != 0) (
 K false ((aa q))) (
 If (decide (((j.len:Int)) > 208)) (
 K false ((aa q))) (
 iR (ae a) j fun p1=>
 ∃i8:Int,ae a (A0 b) (.int .u32 i8)/\
 ∃i9:Int,ae a ((A0 b).add 1) (.int .i64 i9)/\
 ∃R:Sl,ae a ((A0 b).add 2) R.u/\
 ∃j0:Int,ae a ((A0 b).add 3) (.int .u32 j0)/\
 ∃j1:Int,ae a ((A0 b).add 4) (.int .u64 j1)/\
 ∃j2:Int,ae a ((A0 b).add 5) (.int .u16 j2)/\
 ∃j3:Int,ae a ((A0 b).add 6) (.int .u8 j3)/\
 ∃j4:Int,ae a ((A0 b).add 7) (.int .i64 j4)/\
 ∃T:Sl,ae a ((A0 b).add 8) T.u/\
 lN i8 i9 R j0 j1 j2 j3 j4 T (aa q) fun o8 r=>
 a r/\
 iR (Cell r) o8 fun p2=>
 a r/\
 If (!(ByteArray.toList p1 == ByteArray.toList p2)) (
 K false r) (
 ∃j5:Int,ae a (A0 b) (.int .u32 j5)/\
 ∃j6:Int,ae a ((A0 b).add 1) (.int .i64 j6)/\
 ∃U:Sl,ae a ((A0 b).add 2) U.u/\
 ∃j7:Int,ae a ((A0 b).add 3) (.int .u32 j7)/\
 ∃j8:Int,ae a ((A0 b).add 4) (.int .u64 j8)/\
 ∃j9:Int,ae a ((A0 b).add 5) (.int .u16 j9)/\
 ∃k0:Int,ae a ((A0 b).add 6) (.int .u8 k0)/\
 ∃k1:Int,ae a ((A0 b).add 7) (.int .i64 k1)/\
 ∃V:Sl,ae a ((A0 b).add 8) V.u/\
 ∃k3:Int,ae a (A0 d) (.int .u32 k3)/\
 ∃k4:Int,ae a ((A0 d).add 1) (.int .i64 k4)/\
 ∃W:Sl,ae a ((A0 d).add 2) W.u/\
 ∃k5:Int,ae a ((A0 d).add 3) (.int .u32 k5)/\
 ∃k6:Int,ae a ((A0 d).add 4) (.int .u64 k6)/\
 ∃k7:Int,ae a ((A0 d).add 5) (.int .u16 k7)/\
 ∃k8:Int,ae a ((A0 d).add 6) (.int .u8 k8)/\
 ∃k9:Int,ae a ((A0 d).add 7) (.int .i64 k9)/\
 ∃Y:Sl,ae a ((A0 d).add 8) Y.u/\
 dz j5 j6 U j7 j8 j9 k0 k1 V k3 k4 W k5 k6 k7 k8 k9 Y r fun o9 a1=>
 a a1/\
 If (!o9) (
 K false a1) (
 ∃l0:Int,ae a (A0 b) (.int .u32 l0)/\
 ∃a9:Int,ae a ((A0 b).add 1) (.int .i64 a9)/\
 ∃s:Sl,ae a ((A0 b).add 2) s.u/\
 ∃b0:Int,ae a ((A0 b).add 3) (.int .u32 b0)/\
 ∃b1:Int,ae a ((A0 b).add 4) (.int .u64 b1)/\
 ∃b2:Int,ae a ((A0 b).add 5) (.int .u16 b2)/\
 ∃b3:Int,ae a ((A0 b).add 6) (.int .u8 b3)/\
 ∃b4:Int,ae a ((A0 b).add 7) (.int .i64 b4)/\
 ∃t:Sl,ae a ((A0 b).add 8) t.u/\
 ∃b5:Int,ae a (A0 d) (.int .u32 b5)/\
 ∃b6:Int,ae a ((A0 d).add 1) (.int .i64 b6)/\
 ∃v:Sl,ae a ((A0 d).add 2) v.u/\
 ∃b7:Int,ae a ((A0 d).add 3) (.int .u32 b7)/\
 ∃b8:Int,ae a ((A0 d).add 4) (.int .u64 b8)/\
 ∃b9:Int,ae a ((A0 d).add 5) (.int .u16 b9)/\
 ∃c0:Int,ae a ((A0 d).add 6) (.int .u8 c0)/\
 ∃c1:Int,ae a ((A0 d).add 7) (.int .i64 c1)/\
 ∃x:Sl,ae a ((A0 d).add 8) x.u/\
 iL l0 a9 s b0 b1 b2 b3 b4 t b5 b6 v b7 b8 b9 c0 c1 x a1 fun p0 a2=>
 a a2/\
 If (!p0) (
 K false a2) (
 a4 a2)))))))/\∀(_:Env)(n1:Wd),a4 n1->
 ∃Z:Nat->Int->Pw,(∃n7,Z n7 0 n1)/\∀(_:Env)(l1:Nat)(o:Int)(e:Wd),Z l1 o e->
 If (decide (o < ((j.len:Int)))) (
 Ix j.a j.len o 1 fun n5=>
 ∃m9:Int,Cell e n5 (.int .u8 m9)/\
 Ar .u8 (m9+1) fun q1=>
 Ix j.a j.len o 1 fun n6=>
 aQ e n6 (.int .u8 q1) fun p6=>
 Ar .i64 (o+1) fun q2=>
 ∃l2,l2 < l1/\Z l2 q2 p6) (
 ∃c2:Int,Cell e (A0 b) (.int .u32 c2)/\
 ∃c3:Int,Cell e ((A0 b).add 1) (.int .i64 c3)/\
 ∃y:Sl,Cell e ((A0 b).add 2) y.u/\
 ∃c5:Int,Cell e ((A0 b).add 3) (.int .u32 c5)/\
 ∃c6:Int,Cell e ((A0 b).add 4) (.int .u64 c6)/\
 ∃c7:Int,Cell e ((A0 b).add 5) (.int .u16 c7)/\
 ∃c8:Int,Cell e ((A0 b).add 6) (.int .u8 c8)/\
 ∃c9:Int,Cell e ((A0 b).add 7) (.int .i64 c9)/\
 ∃z:Sl,Cell e ((A0 b).add 8) z.u/\
 ∃d0:Int,Cell e (A0 d) (.int .u32 d0)/\
 ∃d1:Int,Cell e ((A0 d).add 1) (.int .i64 d1)/\
 ∃A:Sl,Cell e ((A0 d).add 2) A.u/\
 ∃d2:Int,Cell e ((A0 d).add 3) (.int .u32 d2)/\
 ∃d4:Int,Cell e ((A0 d).add 4) (.int .u64 d4)/\
 ∃d5:Int,Cell e ((A0 d).add 5) (.int .u16 d5)/\
 ∃d6:Int,Cell e ((A0 d).add 6) (.int .u8 d6)/\
 ∃d7:Int,Cell e ((A0 d).add 7) (.int .i64 d7)/\
 ∃B:Sl,Cell e ((A0 d).add 8) B.u/\
 dz c2 c3 y c5 c6 c7 c8 c9 z d0 d1 A d2 d4 d5 d6 d7 B e fun o1 n2=>
 If o1 (
 cr  n2 fun o2 p7=>
 K o2 p7) (
 K false n2))))
def tX:wj:=(qz (.seq (qz (.cond (qz n0) n0)) (qz (qz (.join [] 1073217540 (.seq (.draw (bY [0,2] (.one 1 (.one 3 (bY [4,5,6,7] (.one 8 (bY [9,10] .fin))))))) (.cond (qz n0) n0)) (.seq (qz (.cond (qz n0) n0)) (qz (.join [] 2417851638103358442569732 (.seq (.draw (bY [0,1,2,3,4,5,6,7,8,9,10,11,12,13,14] (.one 15 (.one 16 (bY [17,18,19,20,21] (.one 22 (bY [23,24,25,26,27] (.one 28 (bY [29,30] .fin))))))))) (.cond (qz n0) n0)) (.seq (qz (.block (.loop [(8,.int .i64)] 9901102462643812940843581696 (.seq (qz (.cond n0 n0)) (.seq (.block n0) n0))))) (qz n0))))))))))
theorem tY{x0:Int}{x1:Int}{x2:Sl}{x3:Int}{x4:Int}{x5:Int}{x6:Int}{x7:Int}{x8:Sl}{w:Wd}{K:Bool->Pw}(h:tW x0 x1 x2 x3 x4 x5 x6 x7 x8 w K):iX x0 x1 x2 x3 x4 x5 x6 x7 x8 w K:=
 YF PK tX [.agg ([.int .u32 x0,.int .i64 x1,.slice x2.a x2.len x2.cap,.int .u32 x3,.int .u64 x4,.int .u16 x5,.int .u8 x6,.int .i64 x7,.slice x8.a x8.len x8.cap]).toArray] [.one (.bool)] K w Tryz.func5 h
def sL(c:Option Addr)(path:Sl)(t0 t1:Int)(t2 t3:Int)(choose:Value)(w:Wd)(K:Sl->Int->Pw):Prop:=
 af w (.cells (fh t0 t1 t2 t3).toArray 30) fun d a4=>
 ∃l:Nat->Sl->Pw,(∃a3,l a3 path a4)/\∀(_:Env)(p:Nat)(N:Sl)(k:Wd),l p N k->
 ∃E:Int,Cell k (A0 d) (.int .u32 E)/\
 ∃F:Int,Cell k ((A0 d).add 1) (.int .u64 F)/\
 ∃G:Int,Cell k ((A0 d).add 2) (.int .u16 G)/\
 ∃H:Int,Cell k ((A0 d).add 3) (.int .u8 H)/\
 fF c E F G H k fun O P j Q a5=>
 af a5 (.cells (jQ 0 0).toArray 142) fun e a6=>
 aP a6 (A0 e) 3 (cY O P j) fun o=>
 If (Q != 0) (
 K ⟨none,0,0⟩ Q o) (
 ∃I:Int,Cell o (A0 e) (.int .u8 I)/\
 ∃J:Int,Cell o ((A0 e).add 1) (.int .u8 J)/\
 ∃i:Sl,Cell o ((A0 e).add 2) i.u/\
 aD pz true choose [.agg ((cY I J i)).toArray] [.one (.int .i64)] (fun D r=>
 ∃L:Int,Cell r (A0 e) (.int .u8 L)/\
 ∃M:Int,Cell r ((A0 e).add 1) (.int .u8 M)/\
 ∃h:Sl,Cell r ((A0 e).add 2) h.u/\
 af r (.cells (aca L M h D).toArray 230) fun a2 a7=>
 bg pz 181 181 N (.slice (some (A0 a2)) 1 1) (fun q a=>
 ∃R:Int,Cell a ((A0 d).add 3) (.int .u8 R)/\
 If (R == 0) (
 K q 0 a) (
 ∃b:Pw,b (aa a)/\
 (
 ∃m:Sl,Cell (aa a) ((A0 e).add 2) m.u/\
 b ((aa a))/\
 Ix m.a m.len D 9 fun g=>
 (
 ∃t:Int,Cell (aa a) (g.add 6) (.int .u32 t)/\
 ∃u:Int,Cell (aa a) ((g.add 6).add 1) (.int .u64 u)/\
 ∃v:Int,Cell (aa a) ((g.add 6).add 2) (.int .u16 v)/\
 b ((aa a))/\
 ∃S:Int,Cell (aa a) ((A0 d).add 3) (.int .u8 S)/\
 b ((aa a))/\
 Ar .u8 (S - 1) fun Z=>
 aP (aa a) (A0 d) 4 (fh t u v Z) fun Y=>
 b Y/\
 ∃f,f < p/\l f q Y)/\(
 ∃T:Int,Cell (aa a) ((A0 d).add 3) (.int .u8 T)/\
 b ((aa a))/\
 Ar .u8 (T - 1) fun a0=>
 ∃x:Int,Cell (aa a) (g.add 6) (.int .u32 x)/\
 ∃y:Int,Cell (aa a) ((g.add 6).add 1) (.int .u64 y)/\
 ∃z:Int,Cell (aa a) ((g.add 6).add 2) (.int .u16 z)/\
 b ((aa a))/\
 aP (aa a) (A0 d) 4 (fh x y z a0) fun V=>
 b V/\
 ∃f,f < p/\l f q V))/\(
 ∃U:Int,Cell (aa a) ((A0 d).add 3) (.int .u8 U)/\
 b ((aa a))/\
 Ar .u8 (U - 1) fun a1=>
 ∃n:Sl,Cell (aa a) ((A0 e).add 2) n.u/\
 b ((aa a))/\
 Ix n.a n.len D 9 fun s=>
 ∃A:Int,Cell (aa a) (s.add 6) (.int .u32 A)/\
 ∃B:Int,Cell (aa a) ((s.add 6).add 1) (.int .u64 B)/\
 ∃C:Int,Cell (aa a) ((s.add 6).add 2) (.int .u16 C)/\
 b ((aa a))/\
 aP (aa a) (A0 d) 4 (fh A B C a1) fun W=>
 b W/\
 ∃f,f < p/\l f q W))) a7) cc o)
theorem lF{c:Option Addr}{path:Sl}{t0:Int}{t1:Int}{t2:Int}{t3:Int}{choose:Value}{w:Wd}{K:Sl->Int->Pw}(h:sL c path t0 t1 t2 t3 choose w K):fD c path t0 t1 t2 t3 choose w K:=cu PK (qz (.block (.loop [(1,.sl)] 35184372088578 (.block (qz (.seq (qz (.cond (qz n0) n0)) (qz (qz (.seq (qz (.cond (qz n0) n0)) (.draw (bY [0,2,6] (.two 1 (bY [3,4] (.two 5 (.one 7 (bY [8,9] (.one 10 .fin))) 7 (.take 8 (.one 5 (.take 9 (.one 10 .fin)))))) 7 (.take 8 (.one 1 (bY [3,4] (.one 5 (.take 9 (.one 10 .fin)))))))))))))))))) Tryz.func145 h
end Go.Proofs.YtpjbalhhlaofmaaGreat
