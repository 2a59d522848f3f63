/- Texts for LVaultNew, part 11. -/
import Derived.Test.YtiigcapldngijaaGreatQn10
set_option maxRecDepth 100000
namespace Go.Proofs.YtiigcapldngijaaGreat
open Go.V
theorem BL{r:Option Addr}{size:Int}{w:Wd}{K:Sl->Int->Pw}(h:If (Option.isNone r) (K ⟨none,0,0⟩ 1 w) (∃k:Pw,(If (decide (size < 1)) (K ⟨none,0,0⟩ 2 w) (If (decide (size > 64)) (K ⟨none,0,0⟩ 2 w) (k w)))/\∀(_:Env)(a:Wd),k a->∃j:Pw,(Nn r fun l=>∃f:Sl,Cell a (l.add 4) f.u/\If (((f.len:Int)) == 0) (K ⟨none,0,0⟩ 91 a) (Nn r fun m=>∃c:Sl,Cell a (m.add 4) c.u/\Ix c.a c.len 0 1 fun n=>∃g:Sl,Cell a n g.u/\If (decide (((g.len:Int)) < size)) (K ⟨none,0,0⟩ 91 a) (j a)))/\∀(_:Env)(e:Wd),j e->Nn r fun o=>∃d:Sl,Cell e (o.add 4) d.u/\Ix d.a d.len 0 1 fun p=>∃h:Sl,Cell e p h.u/\Cut h 0 size size 1 fun t=>Nn r fun q=>∃b:Sl,Cell e (q.add 4) b.u/\Cut b 1 (((b.len:Nat):Int)) (((b.cap:Nat):Int)) 1 fun i=>Nn r fun s=>aH e (s.add 4) i.u fun u=>K t 0 u)):ix r size w K:=aM PK (qz (.seq (qz (.cond (qz n0) n0)) (.join [] 32304 (qz (.cond (qz n0) n0)) (.join [] 4294934576 (qz (.cond (qz n0) n0)) (qz (qz (qz n0))))))) Tryz.func128 h
theorem QK{q:Int}{w:Wd}{K:Int->Int->Pw}(h:If (decide (q < 1)) (False) (If (decide (q > 1000)) (False) (Ar .i64 (4 * q) fun a=>Ar .i64 (a+2) fun b=>K b 0 w))):Br q w K:=aM PK (qz (.seq (qz (.cond .cut n0)) (qz n0))) Tryz.func231 h
theorem QL{q:Int}{w:Wd}{rd:Bool}{K:Int->Int->Pw}{X:PX}(h:Br q w K):aC pz rd (.func (.func 231) #[] #[]) [.int .i64 q] [yA, yA] K X w:=pE h
theorem QN{n:Int}{w:Wd}{K:Int->Int->Pw}(h:If (decide (n < 0)) (False) (If (decide (n > 64)) (False) (Ar .i64 (8 * n) fun a=>Ar .i64 (a+4) fun b=>K b 0 w))):wo n w K:=aM PK (qz (.seq (qz (.cond .cut n0)) (qz n0))) Tryz.func229 h
theorem DQ{l:Sl}{each:Value}{w:Wd}{K:Int->Int->Pw}(h:∃c:Nat->Int->Int->Pw,(∃i,c i 0 0 w)/\∀(_:Env)(e:Nat)(d:Int)(a:Int)(b:Wd),c e d a b->If (decide (a < ((l.len:Int)))) (Ix l.a l.len a 1 fun h=>∃g:Int,Cell b h (.int .i64 g)/\aC pz true each [.int .i64 g] [yA, yA] (fun j k m=>If (k != 0) (False) (Ar .i64 (d+j) fun n=>Ar .i64 (a+1) fun o=>∃f,f < e/\c f n o m)) bJ b) (K d 0 b)):tD l each w K:=aM PK (qz (qz (.seq (qz (.block (.loop [(6,.int .i64),(13,.int .i64)] 1073735536 (qz (.seq (.cond n0 n0) (.seq (.block (qz (qz (.seq (qz (.cond .cut n0)) n0)))) n0)))))) (qz n0)))) Tryz.func230 h
theorem Ji{blocks:Int}{ET:Sl}{w:Wd}{K:Bool->Int->Pw}(h:wo (ET.len:Int) w fun a c e=>If (c != 0) (False) (tD ET (.func (.func 231) #[] #[]) e fun b d f=>If (d != 0) (False) (Ar .i64 (a+b) fun g=>K (decide (g<=blocks)) 0 f))):sj blocks ET w K:=aM PK (qz (qz (.seq (qz (.cond .cut n0)) (qz (.seq (qz (.cond .cut n0)) (qz n0)))))) Tryz.func127 h
theorem vB{vv:Option Addr}{c0 c1:Int}{c2:Sl}{c3 c4:Int}{c5 c6:Int}{c7 c8:Int}{c9 c10:Sl}{c11 c12:Sl}{c13:Bool}{w:Wd}{K:Int->Int->Int->Sl->Sl->Int->Sl->Pw}(h:au w (.cells [.pointer vv].toArray 24) fun d j7=>au j7 (.cells (Lf c0 c1 c2 c3 c4 c5 c6 c7 c8 c9 c10 c11 c12 c13).toArray 67) fun c k1=>au k1 (.cells (EO 0 0 0 0).toArray 61) fun a o=>∃z:Pw,(∃f1:Int,Cell o ((A0 c).add 1) (.int .u32 f1)/\If (f1 == 0) (aS 2 o fun k5=>z k5) (∃R:Sl,Cell o ((A0 c).add 2) R.u/\If (((R.len:Int)) != 16) (aS 2 o fun k8=>z k8) (∃g2:Int,Cell o ((A0 c).add 3) (.int .i64 g2)/\If (decide (g2 < 1)) (aS 2 o fun k9=>z k9) (∃g3:Int,Cell o ((A0 c).add 3) (.int .i64 g3)/\If (decide (g3 > 1000)) (aS 2 o fun l0=>z l0) (z o)))))/\∀(_:Env)(d2:Wd),z d2->∃W:Pw,(∃b:Pw,b (ae d2)/\∃g4:Option Addr,aj b (A0 d) (.pointer g4)/\Nn g4 fun i0=>∃g5:Option Nat,aj b (i0.add 17) (.map g5)/\∃g6:Int,aj b ((A0 c).add 1) (.int .u32 g6)/\∃e7:Option Addr,∃U,Sem.run pz (Instr.lookup 49 (.map g5) (.int .u32 g6) false) ((ae d2)) = .ok (.pointer e7) U/\b U/\If (!(Option.isNone e7)) (aS 8 U fun j8=>W j8) (W U))/\∀(_:Env)(b5:Wd),W b5->∃g7:Int,Cell b5 ((A0 c).add 3) (.int .i64 g7)/\au b5 (.cells [.int .i64 g7].toArray 3) fun i6 b6=>∃g8:Option Addr,Cell b6 (A0 d) (.pointer g8)/\Nn g8 fun i1=>∃f2:Option Nat,Cell b6 (i1.add 17) (.map f2)/\∃Q:Option Addr,∃g9,Sem.run pz (Instr.range 49 (.map f2)) b6 = .ok (.pointer Q) g9/\∃V:Nat->Sl->Pw,(∃i8,V i8 ⟨some (A0 i6),1,1⟩ g9)/\∀(_:Env)(e5:Nat)(b3:Sl)(b7:Wd),V e5 b3 b7->(∃S,Sem.run pz (Instr.next (.pointer Q) false 0) b7 = .ok (.tuple #[.bool false]) S/\∃F:Pw,(∃f3:Option Addr,Cell S (A0 d) (.pointer f3)/\Nn f3 fun i2=>∃f4:Int,Cell S i2 (.int .i64 f4)/\sj f4 b3 S fun i9 j2 b8=>If (!i9) (aS 9 b8 fun j9=>F j9) (If (j2 != 0) (aS 9 b8 fun k0=>F k0) (F b8)))/\∀(_:Env)(T:Wd),F T->∃f5:Option Addr,Cell T (A0 d) (.pointer f5)/\Nn f5 fun i3=>∃f6:Option Addr,Cell T (i3.add 5) (.pointer f6)/\ix f6 16 T fun j0 j3 k2=>bh j0 j3 k2 fun b4 k3=>au k3 (.cells [.slice none 0 0].toArray 22) fun v k4=>aH k4 (A0 v) b4.u fun b9=>∃b:Pw,b (ae b9)/\∃x:Int,aj b ((A0 c).add 1) (.int .u32 x)/\∃y:Int,aj b ((A0 c).add 3) (.int .i64 y)/\∃f7:Option Addr,aj b (A0 d) (.pointer f7)/\Nn f7 fun i4=>∃D:Sl,aj b (i4.add 3) D.u/\∃E:Sl,aj b ((A0 c).add 2) E.u/\(mP D E (ae b9) fun e8 e9 d0=>b d0/\(bh e8 e9 d0 fun A h0=>b h0/\au h0 (.cells (Bm 0 0 0 0 0 0 0).toArray 100) fun Y h1=>b h1/\bQ h1 (A0 Y) 9 (NP x y A 0 0 0 0 0) fun h2=>∃f8:Option Addr,Cell h2 (A0 d) (.pointer f8)/\bC f8 (.func (.func 131) #[] #[.pointer (some (A0 d)),.pointer (some (A0 c)),.pointer (some (A0 v)),.pointer (some (A0 Y))]) (.func (.func 137) #[] #[.pointer (some (A0 d)),.pointer (some (A0 c)),.pointer (some (A0 v)),.pointer (some (A0 Y))]) h2 fun p=>Bn (Cell p) (A0 a) fun a1 a2 a7 h m b2 n=>bQ p (A0 a) 7 (WB a1 a2 a7 h m b2 n) fun q=>Bn (Cell q) (A0 a) fun e2 e3 e4 G H d3 I=>K e2 e3 e4 G H d3 I q)/\(au d0 (.cells (Bm 0 0 0 0 0 0 0).toArray 100) fun Z h3=>b h3/\bh e8 e9 h3 fun B h4=>b h4/\bQ h4 (A0 Z) 9 (NP x y B 0 0 0 0 0) fun h5=>∃f9:Option Addr,Cell h5 (A0 d) (.pointer f9)/\bC f9 (.func (.func 131) #[] #[.pointer (some (A0 d)),.pointer (some (A0 c)),.pointer (some (A0 v)),.pointer (some (A0 Z))]) (.func (.func 137) #[] #[.pointer (some (A0 d)),.pointer (some (A0 c)),.pointer (some (A0 v)),.pointer (some (A0 Z))]) h5 fun r=>Bn (Cell r) (A0 a) fun a3 a4 a5 e f a6 g=>bQ r (A0 a) 7 (WB a3 a4 a5 e f a6 g) fun s=>Bn (Cell s) (A0 a) fun d4 d5 d6 J L d7 M=>K d4 d5 d6 J L d7 M s))/\(au (ae b9) (.cells (Bm 0 0 0 0 0 0 0).toArray 100) fun a0 h6=>b h6/\mP D E h6 fun j1 j4 h7=>b h7/\bh j1 j4 h7 fun C h8=>b h8/\bQ h8 (A0 a0) 9 (NP x y C 0 0 0 0 0) fun h9=>∃g0:Option Addr,Cell h9 (A0 d) (.pointer g0)/\bC g0 (.func (.func 131) #[] #[.pointer (some (A0 d)),.pointer (some (A0 c)),.pointer (some (A0 v)),.pointer (some (A0 a0))]) (.func (.func 137) #[] #[.pointer (some (A0 d)),.pointer (some (A0 c)),.pointer (some (A0 v)),.pointer (some (A0 a0))]) h9 fun t=>Bn (Cell t) (A0 a) fun a8 a9 b0 i j b1 l=>bQ t (A0 a) 7 (WB a8 a9 b0 i j b1 l) fun u=>Bn (Cell u) (A0 a) fun d8 d9 e0 N O e1 P=>K d8 d9 e0 N O e1 P u))∨∃k PC iB,Sem.run pz (Instr.next (.pointer Q) false 0) b7 = .ok (.tuple #[.bool true,k,PC]) iB/\∃j5:Value,∃f0:Option Addr,∃d1,Sem.run pz (Instr.entry (.pointer Q)) iB = .ok (.tuple #[j5,.pointer f0]) d1/\Nn f0 fun i5=>∃g1:Int,Cell d1 (i5.add 1) (.int .i64 g1)/\au d1 (.cells [.int .i64 g1].toArray 3) fun i7 k6=>bj pz 226 226 b3 (.slice (some (A0 i7)) 1 1) (fun j6 k7=>∃e6,e6 < e5/\V e6 j6 k7) k6):ib vv c0 c1 c2 c3 c4 c5 c6 c7 c8 c9 c10 c11 c12 c13 w K:=aM PK (qz (.join [] 4294963200 (qz (.cond n0 n0)) (.join [] 2194728288256 (.seq (.draw (bA [0,1,2,3,4,5] (.one 6 (.take 7 .fin)))) (.cond n0 n0)) (qz (.seq (qz (.block (.loop [(5,.sl)] 2305280059260272800 (qz (.seq (.cond n0 n0) (.block (qz n0))))))) (.join [] 302229149060648079983360 (qz (qz (.cond n0 n0))) (qz (.seq (.draw (bA [0,1,2,3,4,5,6,7,8,9,10] (.two 11 (bA [12,13] (.two 14 (.take 15 (.one 16 (.last 17))) 16 (.one 14 (.take 15 (.last 17))))) 16 (.one 11 (bA [12,13] (.one 14 (.take 15 (.last 17)))))))) (qz (qz n0)))))))))) Tryz.func83 h
theorem vC{vv:Option Addr}{c0 c1:Int}{c2:Sl}{c3 c4:Int}{c5 c6:Int}{c7 c8:Int}{c9 c10:Sl}{c11 c12:Sl}{c13:Bool}{w:Wd}{rd:Bool}{K:Int->Int->Int->Sl->Sl->Int->Sl->Pw}{X:PX}(h:ib vv c0 c1 c2 c3 c4 c5 c6 c7 c8 c9 c10 c11 c12 c13 w K):aC pz rd (.func (.func 83) #[.pointer vv] #[]) [.agg ([.int .i64 c0,.int .u32 c1,.slice c2.a c2.len c2.cap,.int .i64 c3,.int .i64 c4,.int .u64 c5,.int .u64 c6,.int .u64 c7,.int .u8 c8,.slice c9.a c9.len c9.cap,.slice c10.a c10.len c10.cap,.slice c11.a c11.len c11.cap,.slice c12.a c12.len c12.cap,.bool c13]).toArray] [.agg [yI, yM, yM, yN, yN, yI, yN]] K X w:=pE h
theorem Au{vv:Option Addr}{k:Int}{w:Wd}{K:Value->Pw}(h:au w (.map #[] 0) fun a u=>∃m,Sem.run pz (Instr.mapUpdate 172 (.map (some a)) (.int .i64 1) (.func (.func 83) #[.pointer vv] #[])) u = .ok () m/\∃n,Sem.run pz (Instr.mapUpdate 172 (.map (some a)) (.int .i64 2) (.func (.func 84) #[.pointer vv] #[])) m = .ok () n/\∃o,Sem.run pz (Instr.mapUpdate 172 (.map (some a)) (.int .i64 3) (.func (.func 85) #[.pointer vv] #[])) n = .ok () o/\∃p,Sem.run pz (Instr.mapUpdate 172 (.map (some a)) (.int .i64 4) (.func (.func 86) #[.pointer vv] #[])) o = .ok () p/\∃q,Sem.run pz (Instr.mapUpdate 172 (.map (some a)) (.int .i64 5) (.func (.func 87) #[.pointer vv] #[])) p = .ok () q/\∃r,Sem.run pz (Instr.mapUpdate 172 (.map (some a)) (.int .i64 6) (.func (.func 88) #[.pointer vv] #[])) q = .ok () r/\∃s,Sem.run pz (Instr.mapUpdate 172 (.map (some a)) (.int .i64 7) (.func (.func 89) #[.pointer vv] #[])) r = .ok () s/\∃t,Sem.run pz (Instr.mapUpdate 172 (.map (some a)) (.int .i64 8) (.func (.func 90) #[.pointer vv] #[])) s = .ok () t/\∃c,Sem.run pz (Instr.mapUpdate 172 (.map (some a)) (.int .i64 9) (.func (.func 91) #[.pointer vv] #[])) t = .ok () c/\∃d,Sem.run pz (Instr.mapUpdate 172 (.map (some a)) (.int .i64 10) (.func (.func 92) #[.pointer vv] #[])) c = .ok () d/\∃e,Sem.run pz (Instr.mapUpdate 172 (.map (some a)) (.int .i64 11) (.func (.func 93) #[.pointer vv] #[])) d = .ok () e/\∃f,Sem.run pz (Instr.mapUpdate 172 (.map (some a)) (.int .i64 12) (.func (.func 94) #[.pointer vv] #[])) e = .ok () f/\∃g,Sem.run pz (Instr.mapUpdate 172 (.map (some a)) (.int .i64 13) (.func (.func 95) #[.pointer vv] #[])) f = .ok () g/\∃h,Sem.run pz (Instr.mapUpdate 172 (.map (some a)) (.int .i64 14) (.func (.func 96) #[.pointer vv] #[])) g = .ok () h/\∃i,Sem.run pz (Instr.mapUpdate 172 (.map (some a)) (.int .i64 15) (.func (.func 97) #[.pointer vv] #[])) h = .ok () i/\∃j,Sem.run pz (Instr.mapUpdate 172 (.map (some a)) (.int .i64 16) (.func (.func 98) #[.pointer vv] #[])) i = .ok () j/\∃b:Value,∃l,Sem.run pz (Instr.lookup 172 (.map (some a)) (.int .i64 k) false) j = .ok (b) l/\K b l):kG vv k w K:=aM PK (qz (qz n0)) Tryz.func46 h
theorem pc{vv:Option Addr}{w:Wd}{K:Int->Pw}(h:aE vv w fun b a=>If b (K 1 a) (dv vv true a fun c d=>K c d)):dZ vv w K:=aM PK (qz (.seq (qz (.cond (qz n0) n0)) (qz n0))) Tryz.func15 h
def Av(d:Option Addr)(_masks:Sl)(w:Wd)(K:Int->Pw):Prop:=If (Option.isNone d) (K 1 w) (∃h:Pw,(Nn d fun l=>∃c:Sl,Cell w (l.add 2) c.u/\∃g:Nat->Int->Pw,(∃s,g s 0 w)/\∀(_:Env)(t:Nat)(i:Int)(j:Wd),g t i j->If (decide (i < ((c.len:Int)))) (False) (h j))/\∀(_:Env)(f:Wd),h f->∃b:Pw,b (ae f)/\Nn d fun m=>∃e:Sl,aj b m e.u/\Nn d fun n=>∃a:Sl,aj b (n.add 1) a.u/\lN pz 115 115 e a.u (fun _ k=>b k/\Nn d fun o=>aH k (o.add 2) (.slice none 0 0) fun u=>Nn d fun p=>aH u (p.add 4) (.int .i64 0) fun v=>Nn d fun q=>aH v (q.add 5) (.int .i64 (-1)) fun x=>Nn d fun r=>aH x (r.add 6) (.bool false) fun y=>K 0 y) (ae f))
theorem Aw{d:Option Addr}{masks:Sl}{w:Wd}{K:Int->Pw}(h:Av d masks w K):kH d masks w K:=aM PK (qz (.seq (qz (.cond (qz n0) n0)) (.join [] 36028797018963168 (qz (.block (.loop [(15,.int .i64)] 36028797018931424 (qz (.seq (.cond .cut n0) .cut))))) (.seq (.draw (bA [0,1,2,3,4,5,6,7] (.one 8 .fin))) (qz (qz (qz n0))))))) Tryz.func50 h
theorem nF{vv:Option Addr}{masks:Sl}{w:Wd}{K:Int->Pw}(h:aE vv w fun f b=>If f (K 1 b) (Nn vv fun d=>aH b (d.add 7) (.bool false) fun c=>Nn vv fun e=>∃a:Option Addr,Cell c (e.add 4) (.pointer a)/\kH a masks c fun g h=>K g h)):cS vv masks w K:=aM PK (qz (.seq (qz (.cond (qz n0) n0)) (qz (qz n0)))) Tryz.func18 h
theorem GU{blocks eV:Int}{w:Wd}{K:Int->Int->Sl->Sl->Pw}(h:au w (.cells (acB 0 0).toArray 31) fun f z=>xO z 5 [.int .u8 0] 1 32 32 fun e B=>au B (.cells (acB 0 0).toArray 31) fun c C=>bQ C (A0 c) 4 (ae6 blocks 1000 e) fun D=>∃m:Nat->Int->Pw,(∃y,m y 0 D)/\∀(_:Env)(s:Nat)(k:Int)(d:Wd),m s k d->If (decide (k < eV)) (xO d 5 [.int .u8 0] 1 16 16 fun g E=>Ar .i64 (k+1) fun H=>Ar .u8 H fun I=>Ix g.a g.len 0 1 fun v=>aH E v (.int .u8 I) fun u=>∃l:Sl,Cell u ((A0 c).add 2) l.u/\au u (.cells [g.u].toArray 22) fun x F=>bj pz 29 29 l (.slice (some (A0 x)) 1 1) (fun p G=>aH G ((A0 c).add 2) p.u fun A=>Ar .i64 (k+1) fun J=>∃t,t < s/\m t J A) F) (aar (Cell d) (A0 c) fun n o a b=>bQ d (A0 f) 4 (Mq0 n o a b) fun h=>aar (Cell h) (A0 f) fun q r i j=>K q r i j h)):qt blocks eV w K:=aM PK (qz (qz (.seq (qz (.block (.loop [(6,.int .i64)] 268433600 (.seq (qz (.cond n0 n0)) (.seq (.block (qz (qz n0))) n0))))) (qz n0)))) Tryz.func22 h
def Fm  (w:Wd) (K:Sl->Pw):Prop:=au w (.cells (nq 97 97 97 97 97 97 97 97 97 97 97 97 97 97 97 97).toArray 5) fun c d=>∃a:Sl,∃b,Sem.run pz (convert 22 22 (.slice (some (A0 c)) 16 16)) d = .ok a.u b/\K a b
def Fo:tZ:=(qz (qz n0))
theorem Fp  {w:Wd} {K:Sl->Pw} (h:Fm  w K):fK  w K:=
 mkT PK Fo [] [.one (.sl)] K w Tryz.func23 h
def GV  (w:Wd) (K:Bool->Pw):Prop:=qt 100 5 w fun R T Y Z a6=>mN R T Y Z a6 fun a U G=>∃p:Pw,(If (U != 0) (K false G) (fK  G fun Q b7=>aR a 1 1 Q 10 0 0 0 0 0 ⟨none,0,0⟩ ⟨none,0,0⟩ ⟨none,0,0⟩ ⟨none,0,0⟩ false b7 fun S _ _ _ _ _ _ I=>If (S != 0) (K false I) (p I)))/\∀(_:Env)(J:Wd),p J->fK  J fun a0 b8=>aR a 8 1 a0 0 0 0 0 0 0 ⟨none,0,0⟩ ⟨none,0,0⟩ ⟨none,0,0⟩ ⟨none,0,0⟩ false b8 fun _ V _ _ _ _ _ b9=>au b9 (.cells [.int .u8 107].toArray 5) fun M c0=>∃h:Sl,∃L,Sem.run pz (convert 22 22 (.slice (some (A0 M)) 1 1)) c0 = .ok h.u L/\au L (.cells [.int .u8 50].toArray 5) fun N a7=>∃i:Sl,∃C,Sem.run pz (convert 22 22 (.slice (some (A0 N)) 1 1)) a7 = .ok i.u C/\au C (.cells (qR h i false).toArray 78) fun O a8=>aR a 11 0 ⟨none,0,0⟩ 0 0 V 0 0 0 ⟨some (A0 O),1,1⟩ ⟨none,0,0⟩ ⟨none,0,0⟩ ⟨none,0,0⟩ false a8 fun r t v b d y f a9=>au a9 (.cells (EO 0 0 0 0).toArray 61) fun q b0=>bQ b0 (A0 q) 7 (WB r t v b d y f) fun n=>∃o:Pw,(∃A:Int,Cell n (A0 q) (.int .i64 A)/\If (A != 0) (K false n) (cS a ⟨none,0,0⟩ n fun a1 D=>If (a1 != 0) (K false D) (dZ a D fun a2 E=>If (a2 != 0) (K false E) (o E))))/\∀(_:Env)(F:Wd),o F->fK  F fun a3 b1=>aR a 8 1 a3 0 0 0 0 0 0 ⟨none,0,0⟩ ⟨none,0,0⟩ ⟨none,0,0⟩ ⟨none,0,0⟩ false b1 fun _ W _ _ _ _ _ b2=>au b2 (.cells [.int .u8 107].toArray 5) fun P b3=>∃k:Sl,∃H,Sem.run pz (convert 22 22 (.slice (some (A0 P)) 1 1)) b3 = .ok k.u H/\aR a 12 0 ⟨none,0,0⟩ 0 0 W 0 0 0 ⟨none,0,0⟩ k ⟨none,0,0⟩ ⟨none,0,0⟩ false H fun s u x c e z g b4=>au b4 (.cells (EO 0 0 0 0).toArray 61) fun m b5=>bQ b5 (A0 m) 7 (WB s u x c e z g) fun j=>∃B:Int,Cell j (A0 m) (.int .i64 B)/\If (B == 0) (∃l:Sl,Cell j ((A0 m).add 3) l.u/\mH (Cell j) l fun a5=>If (ByteArray.toList a5 == ByteArray.toList (⟨#[50]⟩)) (bq a j fun a4 b6=>K (a4 == 2) b6) (K false j)) (K false j)
def GW:tZ:=(qz (qz (.join [] 2095105 (qz (.cond (qz n0) n0)) (qz (qz (.join [] 562881233944577 (qz (.cond (qz n0) n0)) (qz (qz (qz n0)))))))))
theorem GX  {w:Wd} {K:Bool->Pw} (h:GV  w K):jc  w K:=
 mkT PK GW [] [.one (.bool)] K w Tryz.func4 h
theorem mS{vv:Option Addr}{w:Wd}{K:Int->Pw}(h:aE vv w fun d a=>If d (K 0 a) (Nn vv fun c=>∃b:Option Addr,Cell a (c.add 4) (.pointer b)/\gz b a fun e f=>K e f)):cC vv w K:=aM PK (qz (.seq (qz (.cond (qz n0) n0)) (qz n0))) Tryz.func6 h
theorem mT{vv:Option Addr}{w:Wd}{K:Bool->Pw}(h:aE vv w fun d a=>If (!d) (Nn vv fun c=>∃b:Bool,Cell a (c.add 7) (.bool b)/\K (!b) a) (K false a)):cD vv w K:=aM PK (qz (qz n0)) Tryz.func7 h
theorem kY{vv:Option Addr}{w:Wd}{K:Int->Pw}(h:aE vv w fun d a=>If d (K 0 a) (Nn vv fun c=>∃b:Option Addr,Cell a (c.add 5) (.pointer b)/\dw b a fun e f=>K e f)):bW vv w K:=aM PK (qz (.seq (qz (.cond (qz n0) n0)) (qz n0))) Tryz.func9 h
theorem Ax{d:Option Addr}{w:Wd}{K:Int->Pw}(h:If (Option.isNone d) (K 0 w) (Nn d fun b=>∃a:Int,Cell w (b.add 3) (.int .u64 a)/\K a w)):pO d w K:=aM PK (qz (.seq (qz (.cond (qz n0) n0)) (qz n0))) Tryz.func33 h
theorem nG{vv:Option Addr}{w:Wd}{K:Int->Pw}(h:aE vv w fun d a=>If d (K 0 a) (Nn vv fun c=>∃b:Option Addr,Cell a (c.add 4) (.pointer b)/\pO b a fun e f=>K e f)):cR vv w K:=aM PK (qz (.seq (qz (.cond (qz n0) n0)) (qz n0))) Tryz.func10 h
theorem pd{vv:Option Addr}{tenant:Int}{w:Wd}{K:Sl->Pw}(h:∃c:Pw,(aE vv w fun h a=>If h (K ⟨none,0,0⟩ a) (Nn vv fun f=>∃d:Bool,Cell a (f.add 7) (.bool d)/\If (!d) (K ⟨none,0,0⟩ a) (c a)))/\∀(_:Env)(b:Wd),c b->Nn vv fun g=>∃e:Option Addr,Cell b (g.add 8) (.pointer e)/\dh e tenant b fun i j=>K i j):dg vv tenant w K:=aM PK (qz (.join [] 16368 (qz (.cond (qz n0) n0)) (qz n0))) Tryz.func11 h
theorem yT{vv:Option Addr}{i:Int}{w:Wd}{K:Sl->Int->Pw}(h:aE vv w fun d a=>If d (K ⟨none,0,0⟩ 1 a) (Nn vv fun c=>∃b:Option Addr,Cell a (c.add 4) (.pointer b)/\Bo b i a fun e f g=>K e f g)):gk vv i w K:=aM PK (qz (.seq (qz (.cond (qz n0) n0)) (qz n0))) Tryz.func12 h
theorem yU{vv:Option Addr}{n:Int}{w:Wd}{K:Int->Pw}(h:aE vv w fun d a=>If d (K 1 a) (Nn vv fun c=>∃b:Option Addr,Cell a (c.add 4) (.pointer b)/\Bp b n a fun e=>K 0 e)):gq vv n w K:=aM PK (qz (.seq (qz (.cond (qz n0) n0)) (qz (qz n0)))) Tryz.func16 h
theorem Ay{vv:Option Addr}{n:Int}{w:Wd}{K:Int->Pw}(h:aE vv w fun d a=>If d (K 1 a) (Nn vv fun c=>∃b:Option Addr,Cell a (c.add 4) (.pointer b)/\Dc b n a fun e=>K 0 e)):hU vv n w K:=aM PK (qz (.seq (qz (.cond (qz n0) n0)) (qz (qz n0)))) Tryz.func17 h
theorem uq{vv:Option Addr}{i ua:Int}{b:Sl}{w:Wd}{K:Int->Pw}(h:aE vv w fun e a=>If e (K 1 a) (Nn vv fun d=>∃c:Option Addr,Cell a (d.add 4) (.pointer c)/\wK c i ua b a fun f g=>K f g)):ey vv i ua b w K:=aM PK (qz (.seq (qz (.cond (qz n0) n0)) (qz n0))) Tryz.func19 h
theorem Az{vv:Option Addr}{w:Wd}{K:Option Addr->Pw}(h:aE vv w fun d a=>If d (K none a) (Nn vv fun c=>∃b:Option Addr,Cell a (c.add 6) (.pointer b)/\K b a)):hX vv w K:=aM PK (qz (.seq (qz (.cond (qz n0) n0)) (qz n0))) Tryz.func20 h
theorem yV{vv:Option Addr}{tenant:Int}{w:Wd}{K:Int->Pw}(h:∃c:Pw,(aE vv w fun h a=>If h (K 0 a) (Nn vv fun f=>∃d:Bool,Cell a (f.add 7) (.bool d)/\If (!d) (K 0 a) (c a)))/\∀(_:Env)(b:Wd),c b->Nn vv fun g=>∃e:Option Addr,Cell b (g.add 9) (.pointer e)/\x_ e tenant b fun i j=>K i j):gy vv tenant w K:=aM PK (qz (.join [] 16368 (qz (.cond (qz n0) n0)) (qz n0))) Tryz.func21 h
def BM(blocks:Int)(key:Sl)(n ua:Int)(w:Wd)(K:Bool->Pw):Prop:=If (decide (((key.len:Int)) > 1000)) (jc  w fun P b4=>K P b4) (mN blocks 9 ⟨none,0,0⟩ key w fun b m j=>∃i:Pw,(∃d:Bool->Pw,(If (decide (blocks < 8)) (d true j) (If (decide (blocks > 4096)) (d true j) (d (((key.len:Int)) != 32) j)))/\∀(_:Env)(o:Bool)(c:Wd),d o c->If o (If (m != 2) (K false c) (If (!(Option.isNone b)) (K false c) (i c))) (If (m != 0) (K false c) (cC b c fun T E=>If (T != blocks) (K false E) (cD b E fun a5 F=>If a5 (K false F) (bq b F fun a7 G=>If (a7 != 0) (K false G) (bW b G fun a8 H=>If (a8 != 0) (K false H) (cR b H fun a9 I=>If (a9 != 0) (K false I) (dg b 0 I fun b0 J=>If (((b0.len:Int)) != 1) (K false J) (i J)))))))))/\∀(_:Env)(p:Wd),i p->au p (.cells [.int .i64 0,.int .u64 0,.slice none 0 0,.slice none 0 0,.pointer none,.pointer none,.pointer none,.bool false,.pointer none,.pointer none,.int .u64 0,.int .u32 0,.int .u64 0,.int .u16 0,.int .u8 0,.int .u16 0,.int .u32 0,.map none].toArray 51) fun M b5=>au b5 (.cells [.pointer none,.pointer (some (A0 M))].toArray 24) fun N b6=>∃h:Nat->Int->Pw,(∃O,h O 0 b6)/\∀(_:Env)(k:Nat)(e:Int)(f:Wd),h k e f->If (decide (e < 2)) (Ix (some (A0 N)) 2 e 1 fun L=>∃a:Option Addr,Cell f L (.pointer a)/\gk a ua f fun _ R b7=>eu a b7 fun _ S b8=>aR a 7 0 ⟨none,0,0⟩ 0 0 0 0 0 0 ⟨none,0,0⟩ ⟨none,0,0⟩ ⟨none,0,0⟩ ⟨none,0,0⟩ false b8 fun Q _ _ _ _ _ _ q=>If (Q != 1) (K false q) (dZ a q fun b1 r=>If (b1 != 1) (K false r) (cD a r fun b2 s=>If b2 (K false s) (gq a n s fun b3 t=>If (b3 != 1) (K false t) (hU a n t fun U u=>If (U != 1) (K false u) (cS a ⟨none,0,0⟩ u fun V v=>If (V != 1) (K false v) (ey a ua n ⟨none,0,0⟩ v fun W x=>If (W != 1) (K false x) (cR a x fun Y y=>If (Y != 0) (K false y) (bW a y fun Z z=>If (Z != 0) (K false z) (bq a z fun a0 A=>If (a0 != 0) (K false A) (cC a A fun a1 g=>If (a1 != 0) (K false g) (If (R != 1) (K false g) (If (S != 1) (K false g) (hX a g fun a2 B=>If (!(Option.isNone a2)) (K false B) (gy a 1 B fun a3 C=>If (a3 != 0) (K false C) (dg a 0 C fun a4 D=>If (((a4.len:Int)) != 0) (K false D) (Ar .i64 (e+1) fun c0=>∃l,l < k/\h l c0 D))))))))))))))))) (jc  f fun a6 b9=>K a6 b9))
def BN:tZ:=(qz (.seq (qz (.cond (qz n0) n0)) (qz (.join [] 1208925819614628100964608 (.join [(40,.bool)] 2197949513728 n0 (.cond (qz (.cond (qz n0) n0)) (qz (.cond (qz n0) n0)))) (qz (qz (.seq (qz (.block (.loop [(13,.int .i64)] 6129982163463555433433388108598818882835727230385512704 (.seq (qz (.cond n0 n0)) (.seq (.block (qz (qz (qz (qz (.cond (qz n0) n0)))))) n0))))) (qz n0))))))))
theorem BO{blocks:Int}{key:Sl}{n ua:Int}{w:Wd}{K:Bool->Pw}(h:BM blocks key n ua w K):me blocks key n ua w K:=
 mkT PK BN [.int .i64 blocks,.slice key.a key.len key.cap,.int .i64 n,.int .i64 ua] [.one (.bool)] K w Tryz.func3 h
theorem vD{p:Option Addr}{n:Int}{w:Wd}{K:Bool->Pw}(h:Nn p fun b=>∃a:Sl,Cell w (b.add 3) a.u/\sE a n w fun c _ d=>K c d):cH p n w K:=aM PK (qz (qz (qz n0))) Tryz.func465 h
theorem yW{p:Option Addr}{r0 r1 r2:Int}{w:Wd}{K:Int->Pw}(h:au w (.cells (pN r0 r1 r2).toArray 44) fun h F=>bD p F fun B H=>If (B != 0) (False) (∃g:Pw,(di p H fun C t=>If (!C) (False) (∃k:Int,Cell t (A0 h) (.int .u32 k)/\b_ p k t fun D I=>If (!D) (False) (g I)))/\∀(_:Env)(c:Wd),g c->∃a:Int,Cell c (A0 h) (.int .u32 a)/\∃f:Pw,(Nn p fun v=>∃l:Option Nat,Cell c (v.add 5) (.map l)/\∃i:Bool,∃u,Sem.run pz (Instr.lookup 177 (.map l) (.int .u32 a) false) c = .ok (.bool i) u/\If i (False) (cH p a u fun E J=>If E (False) (f J)))/\∀(_:Env)(e:Wd),f e->Nn p fun x=>∃m:Option Nat,Cell e (x.add 6) (.map m)/\∃j:Bool,∃b,Sem.run pz (Instr.lookup 177 (.map m) (.int .u32 a) false) e = .ok (.bool j) b/\If j (Nn p fun y=>∃n:Option Nat,Cell b (y.add 6) (.map n)/\∃r,Sem.run pz (Builtin.delete_ #[177,36] 0 #[.map n,.int .u32 a]) b = .ok (.tuple #[]) r/\cf p a r fun G=>K 0 G) (Nn p fun z=>∃o:Option Nat,Cell b (z.add 5) (.map o)/\∃d,Sem.run pz (Instr.mapUpdate 177 (.map o) (.int .u32 a) (.bool true)) b = .ok () d/\Nn p fun A=>∃q:Option Nat,Cell d (A.add 7) (.map q)/\∃s,Sem.run pz (Instr.mapUpdate 177 (.map q) (.int .u32 a) (.bool true)) d = .ok () s/\K 0 s))):jL p r0 r1 r2 w K:=aM PK (qz (.seq (qz (qz (.cond .cut n0))) (.join [] 4190224 (qz (.cond .cut n0)) (qz (.join [] 34342961168 (qz (.cond .cut n0)) (.seq (qz (.cond (qz (qz (qz n0))) n0)) (qz (qz (qz n0))))))))) Tryz.func462 h
theorem yX {p : Option Addr} {r0 : Int} {r1 : Int} {r2 : Int} {w : Wd} {K : Int → Wd → Prop} {X : PX} (h : jL p r0 r1 r2 w K) : EA pz (.iface 41 (.pointer p)) "Drop" [.agg ([.int .u32 r0,.int .u64 r1,.int .u16 r2]).toArray] [.one (.int .i64)] K X w:=
  mkI (f:=462) (ars:=#[.pointer p,.agg ([.int .u32 r0,.int .u64 r1,.int .u16 r2]).toArray]) (by kernel_rfl) (by kernel_rfl) h
theorem qg{p:Option Addr}{tenant kind:Int}{level r0:Int}{r1 r2:Int}{w:Wd}{K:Sl->Int->Pw}(h:au w (.cells (pN r0 r1 r2).toArray 44) fun g l1=>bD p l1 fun j5 i1=>If (j5 != 0) (False) (∃b1:Pw,(If (decide (kind < 1)) (False) (If (decide (kind > 3)) (False) (∃g2:Int,Cell i1 (A0 g) (.int .u32 g2)/\b_ p g2 i1 fun k6 l3=>If (!k6) (False) (b1 l3))))/\∀(_:Env)(v:Wd),b1 v->wJ (Cell v) (A0 g) fun z A G=>au v (.cells (Gf 0 0 0 0 0 0).toArray 89) fun b l5=>bQ l5 (A0 b) 6 (Gf tenant kind level z A G) fun a9=>∃a:Pw,a (ae a9)/\Nn p fun i6=>∃a2:Option Nat,aj a (i6.add 4) (.map a2)/\∃a3:Int,aj a (A0 g) (.int .u32 a3)/\(∃P:Int,∃R:Int,∃T:Int,∃V:Int,∃Y:Int,∃a0:Int,∃h:Sl,∃g0:Bool,∃b0,Sem.run pz (Instr.lookup 176 (.map a2) (.int .u32 a3) true) ((ae a9)) = .ok (.tuple #[.agg ((EP P R T V Y a0 h)).toArray,.bool g0]) b0/\a b0/\au b0 (.cells (aaq 0 0 0 0 0 0).toArray 182) fun c i5=>a i5/\bQ i5 (A0 c) 7 (EP P R T V Y a0 h) fun y=>a y/\∃l:Pw,(If (!g0) (∃h0:Int,Cell y (A0 g) (.int .u32 h0)/\cH p h0 y fun k7 h7=>If k7 (False) (∃a:Pw,a (ae h7)/\Nn p fun i7=>∃h1:Option Addr,aj a i7 (.pointer h1)/\∃h2:Int,aj a (A0 g) (.int .u32 h2)/\Ar .i64 h2 fun l6=>cF h1 l6 (ae h7) fun j6 k0 a4=>a a4/\If (k0 != 0) (False) (∃a:Pw,a (ae a4)/\Nn p fun i8=>∃h3:Option Addr,aj a (i8.add 1) (.pointer h3)/\∃h4:Int,aj a ((A0 g).add 2) (.int .u16 h4)/\bV h3 tenant h4 (ae a4) fun j7 k1 j=>a j/\If (k1 != 0) (False) (IF (Cell j) (A0 b) fun c6 d7 e2 f2 f8 f9=>jZ j7 c6 d7 e2 f2 f8 f9 j6 j fun r k2 m=>If (k2 != 0) (False) (IF (Cell m) (A0 b) fun O B C D E F=>bQ m (A0 c) 7 (EP O B C D E F r) fun h8=>∃a:Pw,a (ae h8)/\Nn p fun i9=>∃h5:Option Nat,aj a (i9.add 4) (.map h5)/\∃h6:Int,aj a (A0 g) (.int .u32 h6)/\aat (aj a) (A0 c) fun b2 b3 b4 b5 b6 b7 o=>∃a5,Sem.run pz (Instr.mapUpdate 176 (.map h5) (.int .u32 h6) (.agg ((EP b2 b3 b4 b5 b6 b7 o)).toArray)) ((ae h8)) = .ok () a5/\a a5/\l a5))))) (l y))/\∀(_:Env)(e:Wd),l e->IF (Cell e) (A0 c) fun b8 b9 c0 c1 c2 c3=>IF (Cell e) (A0 b) fun c4 c5 c7 c8 c9 d0=>If (!((b8 == c4) && ((b9 == c5) && ((c0 == c7) && (((c1 == c8) && ((c2 == c9) && ((c3 == d0) && (true)))) && (true)))))) (False) (au e (.cells [].toArray 5) fun j3 h9=>∃t:Sl,Cell h9 ((A0 c).add 6) t.u/\bj pz 22 22 ⟨some (A0 j3),0,0⟩ t.u (fun k9 l2=>K k9 0 l2) h9))/\(au (ae a9) (.cells (aaq 0 0 0 0 0 0).toArray 182) fun d i0=>a i0/\∃Q:Int,∃S:Int,∃U:Int,∃W:Int,∃Z:Int,∃a1:Int,∃i:Sl,∃g1:Bool,∃a6,Sem.run pz (Instr.lookup 176 (.map a2) (.int .u32 a3) true) i0 = .ok (.tuple #[.agg ((EP Q S U W Z a1 i)).toArray,.bool g1]) a6/\a a6/\bQ a6 (A0 d) 7 (EP Q S U W Z a1 i) fun x=>a x/\∃l:Pw,(If (!g1) (∃g3:Int,Cell x (A0 g) (.int .u32 g3)/\cH p g3 x fun k8 i2=>If k8 (False) (∃a:Pw,a (ae i2)/\Nn p fun j0=>∃g4:Option Addr,aj a j0 (.pointer g4)/\∃g5:Int,aj a (A0 g) (.int .u32 g5)/\Ar .i64 g5 fun l7=>cF g4 l7 (ae i2) fun j8 k3 a7=>a a7/\If (k3 != 0) (False) (∃a:Pw,a (ae a7)/\Nn p fun j1=>∃g6:Option Addr,aj a (j1.add 1) (.pointer g6)/\∃g7:Int,aj a ((A0 g).add 2) (.int .u16 g7)/\bV g6 tenant g7 (ae a7) fun j9 k4 k=>a k/\If (k4 != 0) (False) (IF (Cell k) (A0 b) fun d1 d2 d3 d4 d5 d6=>jZ j9 d1 d2 d3 d4 d5 d6 j8 k fun s k5 n=>If (k5 != 0) (False) (IF (Cell n) (A0 b) fun H I J L M N=>bQ n (A0 d) 7 (EP H I J L M N s) fun i3=>∃a:Pw,a (ae i3)/\Nn p fun j2=>∃g8:Option Nat,aj a (j2.add 4) (.map g8)/\∃g9:Int,aj a (A0 g) (.int .u32 g9)/\aat (aj a) (A0 d) fun d8 d9 e0 e1 e3 e4 q=>∃a8,Sem.run pz (Instr.mapUpdate 176 (.map g8) (.int .u32 g9) (.agg ((EP d8 d9 e0 e1 e3 e4 q)).toArray)) ((ae i3)) = .ok () a8/\a a8/\l a8))))) (l x))/\∀(_:Env)(f:Wd),l f->IF (Cell f) (A0 d) fun e5 e6 e7 e8 e9 f0=>IF (Cell f) (A0 b) fun f1 f3 f4 f5 f6 f7=>If (!((e5 == f1) && ((e6 == f3) && ((e7 == f4) && (((e8 == f5) && ((e9 == f6) && ((f0 == f7) && (true)))) && (true)))))) (False) (au f (.cells [].toArray 5) fun j4 i4=>∃u:Sl,Cell i4 ((A0 d).add 6) u.u/\bj pz 22 22 ⟨some (A0 j4),0,0⟩ u.u (fun l0 l4=>K l0 0 l4) i4)))):fh p tenant kind level r0 r1 r2 w K:=aM PK (qz (.seq (qz (qz (.cond .cut n0))) (.join [] 274844355584 (qz (.cond .cut n0)) (qz (.seq (.draw (bA [0,1,2,3,4,5] (.two 6 (bA [7,8,9] (.one 10 (.one 11 (.take 12 .fin)))) 10 (.one 6 (bA [7,8,9] (.one 11 (.take 12 .fin))))))) (.join [] 40564819207303331840695248817152 (qz (.cond (.seq (qz (.cond .cut n0)) (.seq (.draw (bA [0,1,2,3,4,5,6] (.one 7 (bA [8,9,10,11,12] .fin)))) (.seq (qz (.cond .cut n0)) (.seq (.draw (bA [0,1,2,3,4,5,6] (.one 7 (bA [8,9,10,11,12] .fin)))) (.seq (qz (.cond .cut n0)) (qz (.seq (qz (.cond .cut n0)) (qz (.draw (bA [0,1,2,3,4,5,6] (.one 7 .fin))))))))))) n0)) (.seq (qz (.cond .cut n0)) (qz n0)))))))) Tryz.func463 h
theorem qh {p : Option Addr} {tenant : Int} {kind : Int} {level : Int} {r0 : Int} {r1 : Int} {r2 : Int} {w : Wd} {K : Sl → Int → Wd → Prop} {X : PX} (h : fh p tenant kind level r0 r1 r2 w K) : EA pz (.iface 41 (.pointer p)) "Get" [.int .u32 tenant,.int .u8 kind,.int .u8 level,.agg ([.int .u32 r0,.int .u64 r1,.int .u16 r2]).toArray] [.one (.sl),.one (.int .i64)] K X w:=
  mkI (f:=463) (ars:=#[.pointer p,.int .u32 tenant,.int .u8 kind,.int .u8 level,.agg ([.int .u32 r0,.int .u64 r1,.int .u16 r2]).toArray]) (by kernel_rfl) (by kernel_rfl) h
theorem yY{r:Option Addr}{tenant:Int}{w:Wd}{K:Int->Int->Pw}(h:If (Option.isNone r) (False) (dh r tenant w fun a c=>If (((a.len:Int)) == 0) (False) (Ar .i64 (((a.len:Int)) - 1) fun e=>Ix a.a a.len e 1 fun d=>∃b:Int,Cell c d (.int .u16 b)/\K b 0 c))):jM r tenant w K:=aM PK (qz (.seq (qz (.cond .cut n0)) (qz (.seq (qz (.cond .cut n0)) (qz n0))))) Tryz.func466 h
theorem LK{l:Sl}{w:Wd}{K:Int->Sl->Int->Pw}(h:gA l w fun p a=>If (!p) (K 0 ⟨none,0,0⟩ 2 a) (If (((l.len:Int)) == 0) (K 0 ⟨none,0,0⟩ 9 a) (Ix l.a l.len 0 2 fun i=>Lq9 (Cell a) i fun d e=>au a (.cells (Gx 0 0).toArray 192) fun b s=>bQ s (A0 b) 2 (Gx d e) fun h=>∃j:Int,Cell h (A0 b) (.int .u32 j)/\Ar .u32 (j+1) fun u=>∃k:Int,Cell h ((A0 b).add 1) (.int .u32 k)/\pW u k h fun f t=>bj pz 175 175 ⟨none,0,0⟩ f.u (fun q n=>∃c:Pw,c (ae n)/\∃m:Int,aj c (A0 b) (.int .u32 m)/\Cut l 1 (((l.len:Nat):Int)) (((l.cap:Nat):Int)) 2 fun g=>bj pz 175 175 q g.u (fun r o=>c o/\K m r 0 o) (ae n)) t))):vj l w K:=aM PK (qz (.seq (qz (.cond (qz n0) n0)) (.seq (qz (.cond (qz n0) n0)) (qz (qz (.seq (.draw (bA [0,1,2,3,4] (.one 5 (bA [6,7,8] .fin)))) n0)))))) Tryz.func467 h
theorem AA{p:Option Addr}{tenant kind level:Int}{payload:Sl}{w:Wd}{K:Int->Int->Int->Int->Pw}(h:au w (.cells (pN 0 0 0).toArray 44) fun d T=>bD p T fun P U=>If (P != 0) (False) (∃q:Pw,(di p U fun S V=>If (!S) (False) (If (decide (kind < 1)) (False) (If (decide (kind > 3)) (False) (If (((payload.len:Int)) != 224) (False) (q V)))))/\∀(_:Env)(o:Wd),q o->Nn p fun H=>∃z:Option Addr,Cell o (H.add 1) (.pointer z)/\jM z tenant o fun y Q E=>If (Q != 0) (False) (Nn p fun I=>∃f:Sl,Cell E (I.add 3) f.u/\vj f E fun e l R W=>If (R != 0) (False) (Nn p fun J=>aH W (J.add 3) l.u fun F=>Nn p fun L=>∃n:Int,Cell F (L.add 9) (.int .u64 n)/\au F (.cells (pN 0 0 0).toArray 44) fun b Y=>bQ Y (A0 b) 3 (pN e n y) fun G=>∃a:Pw,a (ae G)/\Nn p fun M=>∃A:Option Nat,aj a (M.add 4) (.map A)/\wJ (aj a) (A0 b) fun r s t=>au (ae G) (.cells [].toArray 5) fun O C=>a C/\bj pz 22 22 ⟨some (A0 O),0,0⟩ payload.u (fun m D=>a D/\∃g,Sem.run pz (Instr.mapUpdate 176 (.map A) (.int .u32 e) (.agg ((EP tenant kind level r s t m)).toArray)) D = .ok () g/\a g/\Nn p fun N=>∃B:Option Nat,Cell g (N.add 6) (.map B)/\∃c,Sem.run pz (Instr.mapUpdate 177 (.map B) (.int .u32 e) (.bool true)) g = .ok () c/\wJ (Cell c) (A0 b) fun i j k=>bQ c (A0 d) 3 (pN i j k) fun h=>wJ (Cell h) (A0 d) fun u v x=>K u v x 0 h) C)))):kW p tenant kind level payload w K:=aM PK (qz (.seq (qz (qz (.cond .cut n0))) (.join [] 2199006480384 (qz (.cond .cut n0)) (qz (.seq (qz (.cond .cut n0)) (qz (.seq (qz (.cond .cut n0)) (qz (qz (.seq (.draw (bA [0,1,2,3,4,5,6,7,8,9,11] (.one 10 (.one 12 (.take 13 (.one 14 .fin)))))) (qz (qz n0)))))))))))) Tryz.func464 h
theorem AB {p : Option Addr} {tenant : Int} {kind : Int} {level : Int} {payload : Sl} {w : Wd} {K : Int → Int → Int → Int → Wd → Prop} {X : PX} (h : kW p tenant kind level payload w K) : EA pz (.iface 41 (.pointer p)) "Put" [.int .u32 tenant,.int .u8 kind,.int .u8 level,.slice payload.a payload.len payload.cap] [.agg [.one (.int .u32),.one (.int .u64),.one (.int .u16)],.one (.int .i64)] K X w:=
  mkI (f:=464) (ars:=#[.pointer p,.int .u32 tenant,.int .u8 kind,.int .u8 level,.slice payload.a payload.len payload.cap]) (by kernel_rfl) (by kernel_rfl) h
section
variable {w:Wd}
theorem Cx{a:Int}{K:Int->Pw}(ha:By a)(k:K ((EJ a.toNat:Nat):Int) w):jt a w K:=by
 apply DF
 have e:(a * 2 ^ min (Int.toNat 1) (IntKind.bits .u8) % 256).toNat=2 * a.toNat % 256:=by
  show(a * 2 ^ 1 % 256).toNat=_;omega
 refine Nm.as (Wl ha) (If.bne (fun h=>⟨by decide,Ar.Qy (Nm.as (bY (By.mod _) ⟨by decide,by decide⟩) ?_)⟩) fun h=>⟨by decide,Ar.Qy ?_⟩)
 .have h1:a.toNat / 128 % 2=1:=by omega
  have e2:xr (a * 2 ^ min (Int.toNat 1) (IntKind.bits .u8) % 256) 27=((EJ a.toNat:Nat):Int):=by unfold xr EJ;rw[if_pos h1,e];rfl
  rw[e2];exact k
 .have h1:¬ a.toNat / 128 % 2=1:=by omega
  have e2:a * 2 ^ min (Int.toNat 1) (IntKind.bits .u8) % 256=((EJ a.toNat:Nat):Int):=by unfold EJ;rw[if_neg h1,<- e];have:=By.mod (a * 2 ^ min (Int.toNat 1) (IntKind.bits .u8));omega
  rw[e2];exact k
theorem Fq{a b:Int}{K:Int->Pw}(ha:By a)(hb:By b)(k:K (gm a b) w):kV a b w K:=by
 apply IN;refine⟨fun m a' b' c w'=>b'=(m:Int)/\w'=w/\By a'/\By c/\m<=255/\∃i,m < 2 ^ i/\Wj i a'.toNat m c.toNat=Wj 8 a.toNat b.toNat 0,⟨b.toNat,by omega,rfl,ha,⟨by omega,by omega⟩,by omega,8,by omega,rfl⟩,?_⟩;rintro _ m a1 b1 c w1 ⟨rfl,rfl,h1,hc,hm8,i,hm,e⟩;refine If.bne (fun h=>?_) fun h=>?_
 .have WJ:m≠0:=by omega
  obtain⟨j,rfl⟩ : ∃j,i=j+1:=by cases i with
   | zero=>simp at hm;omega
   | succ j=>exact⟨j,rfl⟩
  rw[Wj,if_neg WJ]at e;have hj:m / 2 < 2 ^ j:=by rw[Nat.pow_succ]at hm;omega
  have hd:((EJ a1.toNat:Nat):Int).toNat=EJ a1.toNat:=Int.toNat_natCast _;have hdl:EJ a1.toNat < 256:=Pt;refine Nm.as (Qz (by omega)) (If.bne (fun h2=>?_) fun h2=>?_)
  .rw[if_pos (by omega)]at e;exact Nm.as (bY hc h1) (Cx h1 ⟨by decide,Nm.as (EI (by decide)) ⟨m / 2,by omega,rfl,rfl,by omega,lP hc h1,by omega,j,hj,by rw[hd,Iu];exact e⟩⟩)
  .rw[if_neg (by omega)]at e;exact Cx h1 ⟨by decide,Nm.as (EI (by decide)) ⟨m / 2,by omega,rfl,rfl,by omega,hc,by omega,j,hj,by rw[hd];exact e⟩⟩
 .have WJ:m=0:=by omega
  subst WJ;rw[S9]at e;have:gm a b=c:=by unfold gm gmN;rw[<- e];omega
  rw[<- this];exact k
theorem Fs{a n:Int}{K:Int->Pw}(ha:By a)(hn:By n)(k:K (pw a n) w):kU a n w K:=by
 apply E3;refine⟨fun m a' n' c w'=>n'=(m:Int)/\w'=w/\By a'/\By c/\m<=255/\∃i,m < 2 ^ i/\VI i a'.toNat m c.toNat=VI 8 a.toNat n.toNat 1,⟨n.toNat,by omega,rfl,ha,⟨by omega,by omega⟩,by omega,8,by omega,rfl⟩,?_⟩;rintro _ m a1 n1 c w1 ⟨rfl,rfl,h1,hc,hm8,i,hm,e⟩;refine If.dec (fun h=>?_) fun h=>?_
 .have WJ:m≠0:=by omega
  obtain⟨j,rfl⟩ : ∃j,i=j+1:=by cases i with
   | zero=>simp at hm;omega
   | succ j=>exact⟨j,rfl⟩
  rw[VI,if_neg WJ]at e;have hj:m / 2 < 2 ^ j:=by rw[Nat.pow_succ]at hm;omega
  refine⟨fun c' w'=>w'=w1/\c'=(if m % 2=1 then gm c a1 else c),Nm.as (NG (by omega)) (If.bne (fun h2=>Fq hc h1 ⟨rfl,by rw[if_pos (by omega)]⟩) fun h2=>⟨rfl,by rw[if_neg (by omega)]⟩),?_⟩;rintro _ c2 w2 ⟨rfl,rfl⟩;refine Fq h1 h1 ⟨by decide,Nm.as (EI (by decide)) ⟨m / 2,by omega,rfl,rfl,Pu _ h1,?_,by omega,j,hj,?_⟩⟩
  .split
   .exact Pu _ hc
   .exact hc
  .rw[<- e];have e1:(gm a1 a1).toNat=gmN a1.toNat a1.toNat:=Int.toNat_natCast _;rw[e1];split
   .rfl
   .rfl
 .have WJ:m=0:=by omega
  subst WJ;rw[S_]at e;have:pw a n=c:=by unfold pw;rw[<- e];omega
  rw[<- this];exact k
theorem Tr{a:Int}{K:Int->Pw}(ha:By a)(k:K (pw a 254) w):sH a w K:=by
 apply IS;exact Fs ha ⟨by decide,by decide⟩ k
theorem td{a:Int}{n:Nat}{K:Int->Pw}(ha:By a)(hn:n<=8)(k:K ((Bk a.toNat n:Nat):Int) (ae w)):fP a (n:Int) w K:=by
 apply E4;refine⟨fun _=>True,trivial,by omega,Ar.Qy (Ar.i64 (by omega) ⟨by omega,Nm.mk (Nm.as ?_ k)⟩)⟩;rw[<- aaj ha n,fdiv_pow,show min (Int.toNat (n:Int)) (IntKind.bits .u8)=n by show min _ 8=n;omega,show min (Int.toNat (8 - (n:Int))) (IntKind.bits .u8)=8 - n by show min _ 8=_;omega]
theorem kZ{a:Int}{K:Int->Pw}(ha:By a)(k:∀w',Ext No w w'->K (sb a) w'):cN a w K:=by
 apply IT;refine Tr ha ?_;have hb:By (pw a 254):=Ta _ ha;have e:sb a=xr (xr (xr (xr (xr (pw a 254) ((Bk (pw a 254).toNat 1:Nat):Int)) ((Bk (pw a 254).toNat 2:Nat):Int)) ((Bk (pw a 254).toNat 3:Nat):Int)) ((Bk (pw a 254).toNat 4:Nat):Int)) 99:=rfl;rw[e]at k;generalize pw a 254=b at *;have hr:∀n,By ((Bk b.toNat n:Nat):Int):=fun n=>by have:=wh (b:=b.toNat) (n:=n) (by omega);constructor <;> omega
 refine td (n:=1) hb (by decide) (Nm.as (bY hb (hr 1)) (td (n:=2) hb (by decide) (Nm.as (bY (lP hb (hr 1)) (hr 2)) (td (n:=3) hb (by decide) (Nm.as (bY (lP (lP hb (hr 1)) (hr 2)) (hr 3)) (td (n:=4) hb (by decide) ?_))))));refine Nm.as (bY (lP (lP (lP hb (hr 1)) (hr 2)) (hr 3)) (hr 4)) (Nm.as (bY (lP (lP (lP (lP hb (hr 1)) (hr 2)) (hr 3)) (hr 4)) ⟨by decide,by decide⟩) (k _ ?_));exact(Ext.refl _ _).drew.drew.drew.drew
end
end Go.Proofs.YtiigcapldngijaaGreat
namespace Go.V
theorem Ext.out{w w1 w2:Wd}{b:Nat}(h:Ext No w w1)(k:Ext (·=b) w1 w2)(hb:w.heap.size<=b):Ext No w w2:=h.trans k fun i hi e=>by subst e;omega
theorem four{t:Int}(h0:0<=t)(h1:t < 4):t=0∨t=1∨t=2∨t=3:=by omega
theorem acE{l:List Int}(h:l.length=16):∃a0 a1 a2 a3 b0 b1 b2 b3 c0 c1 c2 c3 d0 d1 d2 d3,l=[a0,a1,a2,a3,b0,b1,b2,b3,c0,c1,c2,c3,d0,d1,d2,d3]:=by
 match l,h with
 | [a0,a1,a2,a3,b0,b1,b2,b3,c0,c1,c2,c3,d0,d1,d2,d3],_=>exact⟨_,_,_,_,_,_,_,_,_,_,_,_,_,_,_,_,rfl⟩
end Go.V
namespace Go.Proofs.YtiigcapldngijaaGreat
open Go.V
section
variable {w:Wd}
theorem aau{l:List Int}(hl:l.length=16){t:Int}(h0:0<=t)(h1:t < 4):∃r0 r1 r2 r3:Int,Sem.run pz (Instr.index 446 (.agg (List.map (Value.int .u8) l++[]).toArray) (.int .i64 t)) w = .ok (.agg ([.int .u8 r0,.int .u8 r1,.int .u8 r2,.int .u8 r3]).toArray) w/\∀u,u < 4->[r0,r1,r2,r3].getD u 0=l.getD (4 * t.toNat+u) 0:=by
 obtain⟨a0,a1,a2,a3,b0,b1,b2,b3,c0,c1,c2,c3,d0,d1,d2,d3,rfl⟩:=acE hl;have q:∀{u:Nat},u < 4->u=0∨u=1∨u=2∨u=3:=fun h=>by omega
 rcases four h0 h1 with rfl | rfl | rfl | rfl
 .exact⟨a0,a1,a2,a3,by kernel_rfl,fun u hu=>by rcases q hu with rfl | rfl | rfl | rfl <;> rfl⟩
 .exact⟨b0,b1,b2,b3,by kernel_rfl,fun u hu=>by rcases q hu with rfl | rfl | rfl | rfl <;> rfl⟩
 .exact⟨c0,c1,c2,c3,by kernel_rfl,fun u hu=>by rcases q hu with rfl | rfl | rfl | rfl <;> rfl⟩
 .exact⟨d0,d1,d2,d3,by kernel_rfl,fun u hu=>by rcases q hu with rfl | rfl | rfl | rfl <;> rfl⟩
theorem aav{c0 c1 c2 c3:Int}{t:Int}(h0:0<=t)(h1:t < 4):Sem.run pz (Instr.index 442 (.agg ([.int .u8 c0,.int .u8 c1,.int .u8 c2,.int .u8 c3]).toArray) (.int .i64 t)) w = .ok (.int .u8 ([c0,c1,c2,c3].getD t.toNat 0)) w:=by
 rcases four h0 h1 with rfl | rfl | rfl | rfl <;> kernel_rfl
def DR(rows c:List Int)(t u:Nat)(j:Nat):Int:=if j < t then NJ rows c j 4 else if j=t then NJ rows c j u else 0
theorem WK{fQ:List Int}{c0 c1 c2 c3:Int}{K:Int->Int->Int->Int->Pw}(hl:fQ.length=16)(hr0:B8 fQ)(hc:B8 [c0,c1,c2,c3])
  (k:∀w',Ext No w w'->K (NJ fQ [c0,c1,c2,c3] 0 4) (NJ fQ [c0,c1,c2,c3] 1 4) (NJ fQ [c0,c1,c2,c3] 2 4) (NJ fQ [c0,c1,c2,c3] 3 4) w'):ve fQ c0 c1 c2 c3 w K:=by
 apply Lm
 refine fun b w1 n1 b1 w2 n2 b2 w3 n3 b3 w4 n4=>⟨fQ,hl,?_,?_⟩
 .exact aA.row ((((aA.new n1).ext n2.ext fun h=>h).ext n3.ext fun h=>h).ext n4.ext fun h=>h)
 have s1:=n1.at_;have s2:=n2.at_;have s3:=n3.at_;have s4:=n4.at_;have z1:=n1.size;have z2:=n2.size;have z3:=n3.size;have z4:=n4.size;have x4:Ext No w w4:=((n1.ext.no n2.ext).no n3.ext).no n4.ext;have a1:aA w4.heap b1 442 .u8 [c0,c1,c2,c3]:=((show aA w2.heap b1 442 .u8 [c0,c1,c2,c3] from n2.get).ext n3.ext fun h=>h).ext n4.ext fun h=>h
 have a2:aA w4.heap b2 442 .u8 [0,0,0,0]:=(show aA w3.heap b2 442 .u8 [0,0,0,0] from n3.get).ext n4.ext fun h=>h
 have a3:aA w4.heap b3 442 .u8 [0,0,0,0]:=n4.get
 let Inv:Wd->List Int->Prop:=fun w' o=>Ext No w w'/\aA w'.heap b1 442 .u8 [c0,c1,c2,c3]/\aA w'.heap b2 442 .u8 [0,0,0,0]/\aA w'.heap b3 442 .u8 o
 have i4:Inv w4 (tab 4 (DR fQ [c0,c1,c2,c3] 0 0)):=⟨x4,a1,a2,a3⟩
 have Jj:∀{u u':Wd}{o:List Int},Inv u o->Ext No u u'->Inv u' o:=fun h x=>⟨h.1.no x,h.2.1.ext x fun h=>h,h.2.2.1.ext x fun h=>h,h.2.2.2.ext x fun h=>h⟩
 refine⟨fun m t w'=>t=4 - (m:Int)/\m<=4/\Inv w' (tab 4 (DR fQ [c0,c1,c2,c3] t.toNat 0)),⟨4,by omega,by omega,i4⟩,?_⟩;rintro _ m t w5 ⟨ht,hm,hi⟩;refine If.dec (fun h=>?_) fun h=>?_
 .obtain⟨r0,r1,r2,r3,hr,hrv⟩:=aau (w:=w5) hl (t:=t) (by omega) (by omega);refine⟨r0,r1,r2,r3,w5,hr,fun b4 w6 n6=>⟨rfl,?_⟩⟩;have a4:aA w6.heap b4 442 .u8 [0,0,0,0]:=n6.get;have i6:=Jj hi n6.ext;have Yx:=i6.2.1.lt;have Na:=i6.2.2.1.lt;have Yy:=i6.2.2.2.lt;have s6:=n6.at_;have z6:=n6.size;have z5:=hi.1.size;have ahz:=hi.2.1.lt;have ahA:=hi.2.2.1.lt;have ahB:b3 < w5.heap.size:=hi.2.2.2.lt
  refine aA.xT (l':=[r0,r1,r2,r3]) a4 rfl fun w7 a7 x7=>⟨r0,Cell.af a7 rfl,r1,Cell.af a7 rfl,r2,Cell.af a7 rfl,r3,Cell.af a7 rfl,?_⟩
  have i7:Inv w7 (tab 4 (DR fQ [c0,c1,c2,c3] t.toNat 0)):=⟨i6.1.out x7 (by omega),i6.2.1.ext x7 (by omega),i6.2.2.1.ext x7 (by omega),i6.2.2.2.ext x7 (by omega)⟩
  refine⟨fun m' t' w'=>t'=4 - (m':Int)/\m'<=4/\Inv w' (tab 4 (DR fQ [c0,c1,c2,c3] t.toNat t'.toNat)),⟨4,by omega,by omega,i7⟩,?_⟩;rintro _ m2 t2 w8 ⟨ht2,hm2,i8⟩;refine If.dec (fun h2=>?_) fun h2=>Ar.i64 (by omega) ⟨m - 1,by omega,by omega,by omega,?_⟩
  .refine⟨_,w8,aav (by omega) (by omega),Ext No w8,(Ext.refl _ _).drew,by omega,by omega,_,i8.2.2.2.held (fun h=>h) (by omega) (by rw[aT];omega),by omega,by omega,_,i8.2.1.held (fun h=>h) (by omega) (by show t2 < 4;omega),?_⟩;have hbr:By ([r0,r1,r2,r3].getD t2.toNat 0):=by rw[hrv _ (by omega)];exact hr0.get _
   have hbc:By ([c0,c1,c2,c3].getD t2.toNat 0):=hc.get _
   have ev:(tab 4 (DR fQ [c0,c1,c2,c3] t.toNat t2.toNat)).getD t.toNat 0=NJ fQ [c0,c1,c2,c3] t.toNat t2.toNat:=by
    rw[gj (by omega)];unfold DR;rw[if_neg (by omega),if_pos rfl]
   rw[ev];refine Fq hbr hbc ⟨(Ext.refl _ _).drew,Nm.as (bY (NK hr0 _ _) (Pu _ hbr)) ⟨by omega,by omega,?_⟩⟩;have aod:aA (ae w8).heap b3 442 .u8 (tab 4 (DR fQ [c0,c1,c2,c3] t.toNat t2.toNat)):=i8.2.2.2;refine aod.st (by omega) (by rw[aT];omega) fun w9 a9 x9=>Ar.i64 (by omega) ⟨m2 - 1,by omega,by omega,by omega,?_⟩
   have Ts:=i8.1.size;refine⟨(i8.1.drew).out x9 (by omega),(show aA (ae w8).heap b1 442 .u8 _ from i8.2.1).ext x9 (by omega),(show aA (ae w8).heap b2 442 .u8 _ from i8.2.2.1).ext x9 (by omega),?_⟩;rw[hrv _ (by omega),wi (g:=DR fQ [c0,c1,c2,c3] t.toNat (t2+1).toNat)]at a9
   .exact a9
   .intro j _;unfold DR;rw[show(t2+1).toNat=t2.toNat+1 by omega];by_cases hj:j=t.toNat
    .subst hj;rw[if_pos rfl,if_neg (by omega),if_pos rfl];rfl
    .rw[if_neg hj];simp only[if_neg hj]
  .have e:tab 4 (DR fQ [c0,c1,c2,c3] t.toNat t2.toNat)=tab 4 (DR fQ [c0,c1,c2,c3] (t+1).toNat 0):=dz fun j _=>by
    unfold DR;rw[show(t+1).toNat=t.toNat+1 by omega,show t2.toNat=4 by omega];by_cases h1:j < t.toNat
    .rw[if_pos h1,if_pos (by omega)]
    .rw[if_neg h1];by_cases h2:j=t.toNat
     .rw[if_pos h2,if_pos (by omega)]
     .rw[if_neg h2,if_neg (by omega)];simp[NJ]
   rw[<- e];exact i8
 .have e4:t.toNat=4:=by omega
  rw[e4]at hi;have ao:aA w5.heap b3 442 .u8 [NJ fQ [c0,c1,c2,c3] 0 4,NJ fQ [c0,c1,c2,c3] 1 4,NJ fQ [c0,c1,c2,c3] 2 4,NJ fQ [c0,c1,c2,c3] 3 4]:=hi.2.2.2;refine⟨_,Cell.af ao rfl,_,Cell.af ao rfl,_,Cell.af ao rfl,_,Cell.af ao rfl,rfl,?_⟩
  refine aA.xT (l':=[_,_,_,_]) hi.2.2.1 rfl fun w7 a7 x7=>⟨_,Cell.af a7 rfl,_,Cell.af a7 rfl,_,Cell.af a7 rfl,_,Cell.af a7 rfl,?_⟩
  exact k _ (hi.1.out x7 (by omega))
end
end Go.Proofs.YtiigcapldngijaaGreat
namespace Go.V
section
variable {w w':Wd} {b:Nat} {T:TypeId} {k:IntKind} {l:List Int}
theorem aA.HJ(a:aA w.heap b T k l){o j:Nat}(h:o+j < l.length):Cell w ((⟨b,o,none⟩ : Addr).add j) (.int k (l.getD (o+j) 0)):=by
 rw[ay rfl];exact a.xy h
theorem aA.Ft{S:Nat->Prop}(a:aA w.heap b T k l)(hb:¬ S b){o j:Nat}(h:o+j < l.length):aj (Ext S w) ((⟨b,o,none⟩ : Addr).add j) (.int k (l.getD (o+j) 0)):=by
 rw[ay rfl];exact aj.aF (a.xy h) hb
theorem LM{l vs:List Int}{o:Nat}(h:o+vs.length<=l.length)(i:Nat):(l.take o++(vs++l.drop (o+vs.length))).getD i 0=if i < o then l.getD i 0 else if i < o+vs.length then vs.getD (i - o) 0 else l.getD i 0:=by
 simp only[List.getD_eq_getElem?_getD];by_cases h1:i < o
 .rw[if_pos h1,List.getElem?_append_left (by simp;omega),List.getElem?_take_of_lt h1]
 .rw[if_neg h1,List.getElem?_append_right (by simp;omega)];have e:(l.take o).length=o:=by simp;omega
  rw[e];by_cases h2:i < o+vs.length
  .rw[if_pos h2,List.getElem?_append_left (by omega)]
  .rw[if_neg h2,List.getElem?_append_right (by omega),List.getElem?_drop];congr 2;omega
theorem Jk{l vs:List Int}{o:Nat}(h:o+vs.length<=l.length):(l.take o++(vs++l.drop (o+vs.length))).length=l.length:=by simp;omega
theorem aA.afa{vs:List Int}{o:Nat}{K:Pw}(a:aA w.heap b T k l)(ho:o+vs.length<=l.length)(hk:∀w',aA w'.heap b T k (l.take o++(vs++l.drop (o+vs.length)))->Ext (·=b) w w'->K w'):bO w ⟨b,o,none⟩ (vs.map (Value.int k)) K:=by
 refine⟨_,_,_,a,rfl,by simpa using ho,.inr (.inr (Nat.le_refl _)),fun v hv=>df v hv,fun w' hw=>hk w' ?_ hw.ext⟩;have:=hw.get a
 have e:setL (l.map (Value.int k)) o (vs.map (Value.int k))=(l.take o++(vs++l.drop (o+vs.length))).map (Value.int k):=by
  rw[lX _ _ _ (by simpa using ho)];simp
 simp only[e]at this;exact this
theorem Ix.arr{n:Nat}{t:Int}{sz:Nat}{K:Addr->Prop}(h0:0<=t)(h1:t < (n:Int))(hk:K ⟨b,t.toNat * sz,none⟩):Ix (some ⟨b,0,none⟩) n t sz K:=
 ⟨_,rfl,h0,h1,by rw[ay rfl];simpa using hk⟩
theorem B8.vE(n:Nat):B8 (List.replicate n 0):=fun x hx=>by rw[(List.mem_replicate.1 hx).2];exact⟨by omega,by omega⟩
theorem k_{t:Int}{n:Int}(h:0<=t):Int.tmod t n=t % n:=Int.tmod_eq_emod_of_nonneg h
theorem pf{t:Int}{n:Int}(h:0<=t):Int.tdiv t n=t / n:=Int.tdiv_eq_ediv_of_nonneg h
theorem Rd.acF{s:Sl}{sz:Nat}{ks:IntKind}(r:Rd w.heap s sz (l.map (Value.int ks))){K:Addr->Prop}{z:Int}(hs:l.length=s.len * sz)(hz:0 < sz)(h0:0<=z)(h1:z < (s.len:Int))
  (hk:∀b o,(∀j,j < sz->Cell w ⟨b,o+j,none⟩ (.int ks (l.getD (z.toNat * sz+j) 0)))->K ⟨b,o,none⟩):Ix s.a s.len z sz K:=by
 have aN:z.toNat * sz+sz<=l.length:=by
  rw[hs];have:z.toNat+1<=s.len:=by omega
  have:=Nat.mul_le_mul_right sz this;rw[Nat.add_mul]at this;omega
 have du:l.map (Value.int ks)≠[]:=fun e=>by
  have:=congrArg List.length e;simp at this;subst this;simp at aN;omega
 obtain⟨b,off,ha,hc⟩:=r.at_ du;refine⟨_,ha,h0,h1,?_⟩;rw[ay rfl];refine hk b _ fun j hj=>Cell.mk ?_
 have:=hc (z.toNat * sz+j) (by simp;omega);rw[<- Nat.add_assoc]at this;rw[this];have hl:z.toNat * sz+j < l.length:=by omega
 simp[List.getD_eq_getElem?_getD,List.getElem?_eq_getElem hl]
end
end Go.V
namespace Go.Proofs.YtiigcapldngijaaGreat
open Go.V
section
variable {w:Wd}
theorem BP{a b c d:Int}:Sem.run pz (Instr.build 442 #[(0,.int .u8 a),(1,.int .u8 b),(2,.int .u8 c),(3,.int .u8 d)]) w = .ok (.agg ([.int .u8 a,.int .u8 b,.int .u8 c,.int .u8 d]).toArray) w:=by kernel_rfl
theorem Tt{c0 c1 c2 c3:Int}{K:Int->Int->Int->Int->Pw}(hc:B8 [c0,c1,c2,c3])(k:∀w',Ext No w w'->K (jw [c0,c1,c2,c3] 0) (jw [c0,c1,c2,c3] 1) (jw [c0,c1,c2,c3] 2) (jw [c0,c1,c2,c3] 3) w'):sA c0 c1 c2 c3 w K:=by
 apply IP
 refine fun b w1 n1 b1 w2 n2=>⟨2,3,1,1,w2,BP,1,2,3,1,w2,BP,1,1,2,3,w2,BP,3,1,1,2,w2,BP,Wm,rfl,w2,by kernel_rfl,?_⟩
 have a0:aA w2.heap b 442 .u8 [c0,c1,c2,c3]:=(show aA w1.heap b 442 .u8 [c0,c1,c2,c3] from n1.get).ext n2.ext fun h=>h
 have a1:aA w2.heap b1 442 .u8 [0,0,0,0]:=n2.get;have s1:=n1.at_;have s2:=n2.at_;have z1:=n1.size;refine⟨c0,Cell.af a0 rfl,c1,Cell.af a0 rfl,c2,Cell.af a0 rfl,c3,Cell.af a0 rfl,WK rfl Pv hc fun w3 x3=>⟨rfl,?_⟩⟩
 refine aA.xT (l':=[_,_,_,_]) (a1.ext x3 fun h=>h) rfl fun w4 a4 x4=>⟨_,Cell.af a4 rfl,_,Cell.af a4 rfl,_,Cell.af a4 rfl,_,Cell.af a4 rfl,k _ ?_⟩
 exact((n1.ext.no n2.ext).no x3).out x4 (by omega)
theorem HK{b b1:Nat}{T:TypeId}{l z:List Int}{K:List Int->Pw}(a:aA w.heap b T .u8 l)(a1:aA w.heap b1 T .u8 z)(hl:l.length=16)(hz:z.length=16)(k:∀w',Ext (·=b1) w w'->K l w') :
  ∃l:List Int,l.length=16/\de (Cell w) (Addr.mk b 0 none) 0 .u8 l/\List.length (α:=Value) (List.map (Value.int .u8) l++[])=16/\bO w (Addr.mk b1 0 none) (List.map (Value.int .u8) l++[]) fun w5=>
   ∃l_1:List Int,l_1.length=16/\de (Cell w5) (Addr.mk b1 0 none) 0 .u8 l_1/\qm .u8 16 (List.map (Value.int .u8) l_1++[]) fun l_2 vs=>i_ [] vs (K l_2) fun Kv=>Kv w5:=
 ⟨l,hl,a.row,by rw[List.append_nil,List.length_map];exact hl,a1.xT (by omega) fun w5 a5 x5=>⟨l,hl,a5.row,qm.mk hl (k w5 x5)⟩⟩
theorem vF{s0 wl:List Int}{words:Sl}{K:List Int->Pw}(h0:ia s0)(GY:B8 wl)(hw:Rd w.heap words 4 (wl.map (Value.int .u8)))(hl:wl.length=words.len * 4)(h4:4<=words.len)(k:∀w',Ext No w w'->K (Da s0 wl 0) w'):dC s0 words w K:=by
 apply DG;refine fun b w1 n1 b1 w2 n2=>?_
 have s1:=n1.at_;have s2:=n2.at_;have z1:=n1.size;have x2:Ext No w w2:=n1.ext.no n2.ext
 let g:Nat->Nat->Int:=fun t i=>if i < t then xr (s0.getD i 0) (wl.getD (16 * 0+i) 0) else s0.getD i 0
 have e0:tab 16 (g 0)=s0:=(dz fun i _=>by show(if i < 0 then _ else _)=_;rw[if_neg (by omega)]).trans (zS h0.1).symm;refine⟨fun m t w'=>t=16 - (m:Int)/\m<=16/\Ext No w w'/\aA w'.heap b1 367 .u8 (List.replicate 16 0)/\aA w'.heap b 367 .u8 (tab 16 (g t.toNat)),⟨16,by omega,by omega,x2,n2.get,by rw[show((0:Int)).toNat=0 from rfl,e0];exact(aA.new n1).ext n2.ext fun h=>h⟩,?_⟩;rintro _ m t w3 ⟨ht,hm,x3,a1,a⟩;refine If.dec (fun h=>?_) fun h=>?_
 .have ev:(tab 16 (g t.toNat)).getD t.toNat 0=s0.getD t.toNat 0:=by
   rw[gj (by omega)];show(if _ then _ else _)=_;rw[if_neg (by omega)]
  have Z_:=a.held (S:=No) (fun h=>h) (t:=t) (by omega) (by rw[aT];omega);rw[ev]at Z_;refine⟨Ext No w3,(Ext.refl _ _).drew,by omega,by omega,_,Z_,by decide,Ar.i64 (by rw[pf (by omega)];omega) ⟨by decide,Nm.as (k_ (by omega)) ?_⟩⟩;rw[pf (by omega)]
  refine(hw.no x3).acF hl (by decide) (by omega) (by omega) fun b' o hc=>⟨by omega,by omega,wl.getD ((t / 4).toNat * 4+(t % 4).toNat * 1) 0,?_,Nm.as (bY (h0.2.get _) (GY.get _)) ⟨by omega,by omega,?_⟩⟩
  .rw[ay rfl];exact aj.cell (hc _ (by omega))
  .have a':aA (ae w3).heap b 367 .u8 (tab 16 (g t.toNat)):=a;have lt:=x3.size;refine a'.st (by omega) (by rw[aT];omega) fun w4 a4 x4=>Ar.i64 (by omega) ⟨m - 1,by omega,by omega,by omega,x3.drew.out x4 (by omega),?_,?_⟩
   .exact(show aA (ae w3).heap b1 367 .u8 _ from a1).ext x4 (by omega)
   .rw[wi (g:=g (t+1).toNat)]at a4
    .exact a4
    .intro j _;show(if _ then _ else if _ then _ else _)=if _ then _ else _
     by_cases hj:j=t.toNat
     .rw[if_pos hj,if_pos (by omega),hj];congr 2;omega
     .rw[if_neg hj];by_cases h2:j < t.toNat
      .rw[if_pos h2,if_pos (by omega)]
      .rw[if_neg h2,if_neg (by omega)]
 .have e:tab 16 (g t.toNat)=Da s0 wl 0:=dz fun i hi=>by show(if _ then _ else _)=_;rw[if_pos (by omega)]
  rw[e]at a;exact HK a a1 (aT _ _) (by simp) fun w' x'=>k w' (x3.out x' (by omega))
theorem Ob{s0:List Int}{K:List Int->Pw}(h0:ia s0)(k:∀w',Ext No w w'->K (Wo s0) w'):fc s0 1 w K:=by
 apply Ad;refine fun b w1 n1 b1 w2 n2 b2 w3 n3=>?_
 have s1:=n1.at_;have s2:=n2.at_;have s3:=n3.at_;have z1:=n1.size;have z2:=n2.size;have x3:Ext No w w3:=(n1.ext.no n2.ext).no n3.ext
 let g:Nat->Nat->Int:=fun t i=>if i < t then s0.getD (4 * ((i / 4+i % 4) % 4)+i % 4) 0 else 0
 refine⟨fun m t w'=>t=16 - (m:Int)/\m<=16/\Ext No w w'/\aA w'.heap b1 367 .u8 (List.replicate 16 0)/\aA w'.heap b 367 .u8 s0/\aA w'.heap b2 367 .u8 (tab 16 (g t.toNat)),⟨16,by omega,by omega,x3,(show aA w2.heap b1 367 .u8 (List.replicate 16 0) from n2.get).ext n3.ext fun h=>h,((aA.new n1).ext n2.ext fun h=>h).ext n3.ext fun h=>h,n3.get⟩,?_⟩;rintro _ m t w4 ⟨ht,hm,x4,a1,a,a2⟩;refine If.dec (fun h=>?_) fun h=>?_
 .refine⟨by decide,Nm.as (k_ (by omega)) ⟨by decide,Ar.i64 (by rw[pf (by omega)];omega) ?_⟩⟩;rw[pf (by omega)];refine Ar.i64 (by omega) (Ar.i64 (by omega) ⟨by decide,Nm.as (k_ (by omega)) (Ar.i64 (by omega) (Ar.i64 (by omega) ⟨by omega,by omega,_,a.cell (by omega) (by have:=h0.1;omega),by omega,by omega,?_⟩))⟩);have lt:=x4.size;refine a2.st (by omega) (by rw[aT];omega) fun w5 a5 x5=>Ar.i64 (by omega) ⟨m - 1,by omega,by omega,by omega,x4.out x5 (by omega),a1.ext x5 (by omega),a.ext x5 (by omega),?_⟩
  rw[wi (g:=g (t+1).toNat)]at a5
  .exact a5
  .intro j _;show(if _ then _ else if _ then _ else _)=if _ then _ else _
   by_cases hj:j=t.toNat
   .rw[if_pos hj,if_pos (by omega),hj];congr 1;omega
   .rw[if_neg hj];by_cases h2:j < t.toNat
    .rw[if_pos h2,if_pos (by omega)]
    .rw[if_neg h2,if_neg (by omega)]
 .have e:tab 16 (g t.toNat)=Wo s0:=dz fun i hi=>by show(if _ then _ else _)=_;rw[if_pos (by omega)]
  rw[e]at a2;exact HK a2 a1 (aT _ _) (by simp) fun w' x'=>k w' (x4.out x' (by omega))
end
end Go.Proofs.YtiigcapldngijaaGreat
namespace Go.V
section
variable {w w':Wd} {b:Nat} {T:TypeId} {k:IntKind} {l:List Int}
theorem Cut.arr{n:Nat}{lo hi:Int}{K:Sl->Prop}(h0:0<=lo)(h1:lo<=hi)(h2:hi<=(n:Int))(h3:lo < (n:Int))(hk:K ⟨some ⟨b,lo.toNat,none⟩,(hi - lo).toNat,((n:Int) - lo).toNat⟩):Cut ⟨some (Addr.mk b 0 none),n,n⟩ lo hi (((n:Nat):Int)) 1 K:=
 Cut.mk h0 h1 h2 (by simp) (by
  have e:h_ (some (Addr.mk b 0 none)) ((n:Int)).toNat lo.toNat 1=some ⟨b,lo.toNat,none⟩:=by
   unfold h_;rw[if_neg (by simp;omega)];simp[ay]
  simp only[e];exact hk)
theorem aA.rd(a:aA w.heap b T k l){o n c:Nat}(h:o+n<=l.length)(hc:n<=c):Rd w.heap ⟨some ⟨b,o,none⟩,n,c⟩ 1 (((l.drop o).take n).map (Value.int k)):=by
 refine⟨by simp;omega,hc,fun _=>⟨b,o,rfl,fun i hi=>?_⟩,fun v hv=>df v hv⟩;have qO:i < n:=by simp at hi;omega
 have:=a.xy (i:=o+i) (by omega);unfold Cell at this;rw[fE]at this;rw[this];simp[List.getD_eq_getElem?_getD,List.getElem?_eq_getElem (show o+i < l.length by omega)]
end
end Go.V
namespace Go.Proofs.YtiigcapldngijaaGreat
open Go.V
section
variable {w w':Wd}
theorem HL{b:Nat}{T:TypeId}{l xs:List Int}{x:Sl}{o n c:Nat}{K:Int->Pw}(a:aA w.heap b T .u8 l)(hx:Rd w.heap x 1 (xs.map (Value.int .u8)))(ho:o+min x.len n<=l.length)
  (hk:∀w',aA w'.heap b T .u8 (l.take o++(xs.take (min x.len n)++l.drop (o+min x.len n)))->Ext (·=b) w w'->K ((min x.len n:Nat):Int) w'):lN pz 22 22 ⟨some ⟨b,o,none⟩,n,c⟩ x.v K w:=by
 have hxl:xs.length=x.len:=by have:=hx.len;simpa using this
 refine sN (row:=l.map (Value.int .u8)) rfl a hx (by simpa using ho) fun w' hw=>?_
 refine hk w' ?_ hw.ext;have:=hw.get a
 have e:setL (l.map (Value.int .u8)) o ((xs.map (Value.int .u8)).take (min x.len n * 1))=(l.take o++(xs.take (min x.len n)++l.drop (o+min x.len n))).map (Value.int .u8):=by
  rw[lX _ _ _ (by simp;omega)];have:min (min x.len n) xs.length=min x.len n:=by omega
  simp[List.map_take,List.map_drop,this]
 simp only[e]at this;exact this
def Oc(w:Wd)(b o:Nat):Prop:=∀i:Nat,i < 256->aj (Ext No w) ⟨b,o+i,none⟩ (.int .u8 (sb (i:Int)))
theorem Oc.no{b o:Nat}(h:Oc w b o)(x:Ext No w w'):Oc w' b o:=fun i hi w2 x2=>h i hi w2 (x.no x2)
theorem QO{s0:List Int}{tb o:Nat}{K:List Int->Pw}(h0:ia s0)(ht:Oc w tb o)(k:∀w',Ext No w w'->K (Iw s0) w'):fO s0 (some ⟨tb,o,none⟩) w K:=by
 apply BD;refine fun b w1 n1 b1 w2 n2=>?_
 have s1:=n1.at_;have s2:=n2.at_;have z1:=n1.size;have x2:Ext No w w2:=n1.ext.no n2.ext
 let g:Nat->Nat->Int:=fun t i=>if i < t then sb (s0.getD i 0) else s0.getD i 0
 have e0:tab 16 (g 0)=s0:=(dz fun i _=>by show(if i < 0 then _ else _)=_;rw[if_neg (by omega)]).trans (zS h0.1).symm;refine⟨fun m t w'=>t=16 - (m:Int)/\m<=16/\Ext No w w'/\aA w'.heap b1 367 .u8 (List.replicate 16 0)/\aA w'.heap b 367 .u8 (tab 16 (g t.toNat)),⟨16,by omega,by omega,x2,n2.get,by rw[show((0:Int)).toNat=0 from rfl,e0];exact(aA.new n1).ext n2.ext fun h=>h⟩,?_⟩;rintro _ m t w3 ⟨WJ,hm,x3,a1,a⟩;refine If.dec (fun h=>?_) fun h=>?_
 .have ev:(tab 16 (g t.toNat)).getD t.toNat 0=s0.getD t.toNat 0:=by
   rw[gj (by omega)];show(if _ then _ else _)=_;rw[if_neg (by omega)]
  have Z_:=a.held (S:=No) (fun h=>h) (t:=t) (by omega) (by rw[aT];omega);rw[ev]at Z_;have hv:=h0.2.get t.toNat;have hvc:=(ht.no x3) (s0.getD t.toNat 0).toNat (by omega);rw[Int.toNat_of_nonneg hv.1]at hvc;refine⟨Ext No w3,(Ext.refl _ _).drew,by omega,by omega,_,Z_,Nn.mk ⟨hv.1,by omega,sb (s0.getD t.toNat 0),?_,by omega,by omega,?_⟩⟩
  .rw[ay rfl];show aj (Ext No w3) ⟨tb,o+(s0.getD t.toNat 0).toNat * 1,none⟩ _;rw[Nat.mul_one];exact hvc
  .have a':aA (ae w3).heap b 367 .u8 (tab 16 (g t.toNat)):=a;have lt:=x3.size;refine a'.st (by omega) (by rw[aT];omega) fun w4 a4 x4=>Ar.i64 (by omega) ⟨m - 1,by omega,by omega,by omega,x3.drew.out x4 (by omega),?_,?_⟩
   .exact(show aA (ae w3).heap b1 367 .u8 _ from a1).ext x4 (by omega)
   .rw[wi (g:=g (t+1).toNat)]at a4
    .exact a4
    .intro j _;show(if _ then _ else if _ then _ else _)=if _ then _ else _
     by_cases hj:j=t.toNat
     .rw[if_pos hj,if_pos (by omega),hj]
     .rw[if_neg hj];by_cases h2:j < t.toNat
      .rw[if_pos h2,if_pos (by omega)]
      .rw[if_neg h2,if_neg (by omega)]
 .have e:tab 16 (g t.toNat)=Iw s0:=dz fun i hi=>by show(if _ then _ else _)=_;rw[if_pos (by omega)]
  rw[e]at a;exact HK a a1 (aT _ _) (by simp) fun w' x'=>k w' (x3.out x' (by omega))
theorem Jl{s0:List Int}{K:List Int->Pw}(h0:ia s0)(k:∀w',Ext No w w'->K (QA s0) w'):dI s0 (.func (.func 273) #[] #[]) w K:=by
 apply wL;refine fun b w1 n1 b1 w2 n2=>?_
 have s1:=n1.at_;have s2:=n2.at_;have z1:=n1.size;have x2:Ext No w w2:=n1.ext.no n2.ext
 let g:Nat->Nat->Int:=fun t i=>if i < t then jw (mL s0 (i / 4)) (i % 4) else s0.getD i 0
 have e0:tab 16 (g 0)=s0:=(dz fun i _=>by show(if i < 0 then _ else _)=_;rw[if_neg (by omega)]).trans (zS h0.1).symm;refine⟨fun m t w'=>t=16 - 4 * (m:Int)/\m<=4/\Ext No w w'/\aA w'.heap b1 367 .u8 (List.replicate 16 0)/\aA w'.heap b 367 .u8 (tab 16 (g t.toNat)),⟨4,by omega,by omega,x2,n2.get,by rw[show((0:Int)).toNat=0 from rfl,e0];exact(aA.new n1).ext n2.ext fun h=>h⟩,?_⟩;rintro _ m t w3 ⟨WJ,hm,x3,a1,a⟩;refine If.dec (fun h=>?_) fun h=>?_
 .refine Ar.i64 (by omega) (Cut.arr (by omega) (by omega) (by omega) (by omega) ⟨by show 4<=(t+4 - t).toNat;omega,Nn.mk ?_⟩)
  obtain⟨q,hq,hq4⟩ : ∃q:Nat,t.toNat=4 * q/\q < 4:=⟨4 - m,by omega,by omega⟩
  have ev:∀j,j < 4->(tab 16 (g t.toNat)).getD (t.toNat+j) 0=s0.getD (4 * q+j) 0:=fun j hj=>by
   rw[gj (by omega)];show(if _ then _ else _)=_;rw[if_neg (by omega),hq]
  have hB:∀j,By (s0.getD j 0):=fun j=>h0.2.get j
  have c0:=a.xy (i:=t.toNat+0) (by rw[aT];omega);have c1:=a.HJ (o:=t.toNat) (j:=1) (by rw[aT];omega);have c2:=a.HJ (o:=t.toNat) (j:=2) (by rw[aT];omega);have c3:=a.HJ (o:=t.toNat) (j:=3) (by rw[aT];omega);rw[ev 0 (by decide)]at c0;rw[ev 1 (by decide)]at c1;rw[ev 2 (by decide)]at c2;rw[ev 3 (by decide)]at c3;refine⟨_,c0,_,c1,_,c2,_,c3,IQ (Tt ?_ fun w4 x4=>?_)⟩
  .exact(B8.nil.cons (hB _)).cons (hB _) |>.cons (hB _) |>.cons (hB _)
  refine fun b2 w5 n5=>⟨rfl,aA.xT (l':=[jw (mL s0 q) 0,jw (mL s0 q) 1,jw (mL s0 q) 2,jw (mL s0 q) 3]) (l:=[0,0,0,0]) n5.get rfl fun w6 a6 x6=>?_⟩
  have Yy:=x3.size;have Ts:=x4.size;have s5:=n5.at_;have z5:=n5.size;have x5:Ext No w w5:=(x3.no x4).no n5.ext;have x6':Ext No w w6:=x5.out x6 (by omega);have ltb:=a.lt;have afb:=a1.lt;have ab:aA w6.heap b 367 .u8 (tab 16 (g t.toNat)):=((a.ext x4 fun h=>h).ext n5.ext fun h=>h).ext x6 (by omega);have ab1:aA w6.heap b1 367 .u8 (List.replicate 16 0):=((a1.ext x4 fun h=>h).ext n5.ext fun h=>h).ext x6 (by omega);refine⟨Ext (·=b) w6,(Ext.refl _ _).drew,Cut.arr (by omega) (by omega) (by omega) (by omega) (Cut.arr (by decide) (by decide) (by decide) (by decide) ?_)⟩;have abd:aA (ae w6).heap b 367 .u8 (tab 16 (g t.toNat)):=ab;have ad:aA (ae w6).heap b2 442 .u8 [jw (mL s0 q) 0,jw (mL s0 q) 1,jw (mL s0 q) 2,jw (mL s0 q) 3]:=a6;have em:min (4 - 0:Int).toNat ((16:Int) - t).toNat=4:=by omega
  refine HL (xs:=[jw (mL s0 q) 0,jw (mL s0 q) 1,jw (mL s0 q) 2,jw (mL s0 q) 3]) abd (ad.rd (o:=0) (n:=4) (c:=4) (by simp) (Nat.le_refl 4)) (by rw[aT];show t.toNat+min 4 (16 - t).toNat<=_;omega) fun w7 a7 x7=>?_
  have lt6:=x6'.size;refine⟨x7.an,Ar.i64 (by omega) ⟨m - 1,by omega,by omega,by omega,x6'.drew.out x7 (by omega),(show aA (ae w6).heap b1 367 .u8 _ from ab1).ext x7 (by omega),?_⟩⟩;have em2:min 4 ((16:Nat) - t).toNat=4:=by omega
  have e:(tab 16 (g t.toNat)).take t.toNat++([jw (mL s0 q) 0,jw (mL s0 q) 1,jw (mL s0 q) 2,jw (mL s0 q) 3]++(tab 16 (g t.toNat)).drop (t.toNat+4))=tab 16 (g (t+4).toNat):=by
   have hle:t.toNat+[jw (mL s0 q) 0,jw (mL s0 q) 1,jw (mL s0 q) 2,jw (mL s0 q) 3].length<=(tab 16 (g t.toNat)).length:=by rw[aT];show t.toNat+4<=16;omega
   refine mK (by rw[aT];exact(Jk hle).trans (aT _ _)) fun i hi=>?_
   have acG:i < 16:=Nat.lt_of_lt_of_eq hi ((Jk hle).trans (aT _ _));refine(LM hle i).trans ?_;rw[gj acG,gj acG];show(if _ then(if _ then _ else _) else if i < t.toNat+4 then _ else if _ then _ else _)=if _ then _ else _
   by_cases h1:i < t.toNat
   .rw[if_pos h1,if_pos h1,if_pos (by omega)]
   .rw[if_neg h1];by_cases h2:i < t.toNat+4
    .rw[if_pos h2,if_pos (by omega),show i / 4=q by omega];have:i - t.toNat=i % 4:=by omega
     rw[this];have h4:i % 4=0∨i % 4=1∨i % 4=2∨i % 4=3:=by omega
     rcases h4 with h | h | h | h <;> rw[h] <;> rfl
    .rw[if_neg h2,if_neg h1,if_neg (by omega)]
  have a7':aA w7.heap b 367 .u8 ((tab 16 (g t.toNat)).take t.toNat++(List.take (min 4 ((16:Nat) - t).toNat) [jw (mL s0 q) 0,jw (mL s0 q) 1,jw (mL s0 q) 2,jw (mL s0 q) 3]++(tab 16 (g t.toNat)).drop (t.toNat+min 4 ((16:Nat) - t).toNat))):=a7;rw[em2]at a7';rw[<- e];exact a7'
 .have e:tab 16 (g t.toNat)=QA s0:=dz fun i hi=>by show(if _ then _ else _)=_;rw[if_pos (by omega)]
  rw[e]at a;exact HK a a1 (aT _ _) (by simp) fun w' x'=>k w' (x3.out x' (by omega))
end
end Go.Proofs.YtiigcapldngijaaGreat
namespace Go.V
section
variable {w w':Wd} {s:Sl} {ks:IntKind} {l:List Int}
theorem Rd.afc(r:Rd w.heap s 1 (l.map (Value.int ks))){lo hi:Int}{K:Sl->Prop}(h0:0<=lo)(h1:lo < hi)(h2:hi<=(s.len:Int))
  (hk:∀b o c,(∀j:Nat,(j:Int) < hi - lo->Cell w ⟨b,o+j,none⟩ (.int ks (l.getD (lo.toNat+j) 0)))->K ⟨some ⟨b,o,none⟩,(hi - lo).toNat,c⟩):Cut s lo hi (((s.cap:Nat):Int)) 1 K:=by
 have hl:l.length=s.len:=by have:=r.len;simpa using this
 have iv:=r.cap
 have du:l.map (Value.int ks)≠[]:=fun e=>by
  have:=congrArg List.length e;simp at this;subst this;simp at hl;omega
 obtain⟨b,off,ha,hc⟩:=r.at_ du;refine Cut.mk h0 (by omega) (by omega) (Int.le_refl _) ?_
 have e:h_ s.a ((s.cap:Int)).toNat lo.toNat 1=some ⟨b,off+lo.toNat,none⟩:=by
  unfold h_;rw[if_neg (by simp;omega),ha];simp[ay]
 simp only[e];refine hk b _ _ fun j hj=>Cell.mk ?_
 have:=hc (lo.toNat+j) (by simp;omega);rw[<- Nat.add_assoc]at this;rw[this];simp[List.getD_eq_getElem?_getD,List.getElem?_eq_getElem (show lo.toNat+j < l.length by omega)]
theorem xO.arr{T:TypeId}{k:IntKind}{sz:Nat}{zs:List Value}{bytes n:Nat}{c:Int}{K:Sl->Pw}(hz:zs=(List.replicate sz 0).map (Value.int k))(hc:c=(n:Int))(hn:bytes * n<=281474976710656)(hn2:n<=281474976710656)
    (hk:∀b w',aA w'.heap b T k (List.replicate (n * sz) 0)->b=w.heap.size->Ext No w w'->w'.heap.size=w.heap.size+1->K ⟨some ⟨b,0,none⟩,n,n⟩ w'):xO w T zs bytes c c K:=by
  subst hc hz
  refine xO.mk (by omega) (Int.le_refl _) (by omega) (by have : ((bytes * n : Nat) : Int) ≤ 281474976710656 := by omega
                                                         simpa using this) fun b w' new=>?_
  have:=new.get;rw[Int.toNat_natCast]at this ⊢;refine hk b w' ?_ new.at_ new.ext new.size
  have e:(List.replicate n (List.map (Value.int k) (List.replicate sz 0))).flatten=(List.replicate (n * sz) 0).map (Value.int k):=by
    rw[List.map_replicate,List.map_replicate,List.flatten_replicate_replicate]
  rw[e]at this;exact this
end
end Go.V
namespace Go.Proofs.YtiigcapldngijaaGreat
open Go.V
section
variable {w:Wd}
theorem Od{key:Sl}{kl:List Int}{K:Sl->Int->Pw}(hk:Rd w.heap key 1 (kl.map (Value.int .u8)))(jj:B8 kl)(hlen:key.len=16∨key.len=32)
  (k:∀b n w',n=4 * (kl.length / 4+7)->aA w'.heap b 442 .u8 (fo kl)->w.heap.size<=b->Ext No w w'->K ⟨some ⟨b,0,none⟩,n,n⟩ 0 w'):uZ key w K:=by
 apply Ln;have Cy:kl.length=key.len:=by have:=hk.len;simpa using this
 refine⟨fun w'=>w'=w,If.bne (fun h=>If.bne (fun h2=>by omega) fun _=>rfl) fun _=>rfl,?_⟩;rintro _ w1 rfl;obtain⟨kz,hkz,hz⟩ : ∃kz:Nat,(kz=4∨kz=8)/\key.len=4 * kz:=by rcases hlen with h | h;exact⟨4,.inl rfl,h⟩;exact⟨8,.inr rfl,h⟩
 have ez:Int.tdiv ((key.len:Int)) 4=(kz:Int):=by rw[pf (by omega)];omega
 refine⟨by decide,?_⟩;rw[ez];refine Ar.i64 (by omega) (Ar.i64 (by omega) (Ar.i64 (by omega) ?_))
 obtain⟨n,hnz⟩ : ∃n:Nat,n=4 * (kz+7):=⟨4 * (kz+7),rfl⟩
 have hk4:kl.length=4 * kz:=by omega
 have ahC:=EK hk4;have afd:=fun {i:Nat} (hi:i < 4 * kz)=>NL hk4 hi
 have acH:=fun {t p:Nat} (h1:kz<=t) (h2:t < 4 * (kz+7)) (hp:p < 4)=>K5 hk4 (by omega) h1 h2 hp
 have wB:=Bl jj;have acI:=k;refine xO.arr (sz:=4) (k:= .u8) (n:=n) rfl (by omega) (by omega) (by omega) fun bs w2 a2 hbs x2 hz2=>?_
 replace k:=fun w' (a:aA w'.heap bs 442 .u8 (fo kl)) (x:Ext No w1 w')=>acI bs n w' (by omega) a (by omega) x
 clear acI;generalize fo kl=WL at *
 let Inv:Wd->Nat->Prop:=fun w' d=>Ext No w1 w'/\∃l,l.length=n * 4/\(∀i,i < d->l.getD i 0=WL.getD i 0)/\aA w'.heap bs 442 .u8 l
 have Jj:∀{u u':Wd}{d:Nat},Inv u d->Ext No u u'->Inv u' d:=fun h x=>⟨h.1.no x,by obtain⟨l,o1,o2,o3⟩:=h.2;exact⟨l,o1,o2,o3.ext x fun h=>h⟩⟩
 refine⟨fun m t w'=>t=(n:Int) - m/\m<=n/\Inv w' (4 * t.toNat),⟨n,by omega,Nat.le_refl _,x2,_,by simp,fun i hi=>by simp at hi,a2⟩,?_⟩;rintro _ m t w3 ⟨ht,hm,i3⟩;have i3':=i3;obtain⟨x3,l,hl,hle,al⟩:=i3;have Yy:=al.lt;refine If.dec (fun h=>?_) fun h=>?_
 rotate_left
 .have e:l=WL:=mK (by omega) fun i hi=>hle i (by have h:¬ t < (n:Int):=h;omega)
  rw[e]at al;exact k w3 al x3
 have h:t < (n:Int):=h;refine If.dec (fun h2=>?_) fun h2=>?_
 .refine Ar.i64 (by omega) (Ar.i64 (by omega) (Ar.i64 (by omega) ((hk.no x3).afc (by omega) (by omega) (by omega) fun kb ko kc hc=>⟨by show 4<=(4 * t+4 - 4 * t).toNat;omega,Nn.mk ?_⟩)));have hc':∀j:Nat,j < 4->Cell w3 ((⟨kb,ko,none⟩ : Addr).add j) (.int .u8 (kl.getD ((4 * t).toNat+j) 0)):=fun j hj=>by rw[ay rfl];exact hc j (by omega)
  refine⟨kl.getD ((4 * t).toNat+0) 0,hc 0 (by omega),kl.getD ((4 * t).toNat+1) 0,hc' 1 (by decide),kl.getD ((4 * t).toNat+2) 0,hc' 2 (by decide),kl.getD ((4 * t).toNat+3) 0,hc' 3 (by decide),Ix.arr (by omega) (by omega) ⟨rfl,?_⟩⟩;have aaw:t.toNat * 4+4<=l.length:=by rw[hl];omega
  refine al.afa (vs:=[kl.getD ((4 * t).toNat+0) 0,kl.getD ((4 * t).toNat+1) 0,kl.getD ((4 * t).toNat+2) 0,kl.getD ((4 * t).toNat+3) 0]) aaw fun w4 a4 x4=>Ar.i64 (by omega) ⟨m - 1,by omega,by omega,by omega,x3.out x4 (by omega),_,(Jk aaw).trans hl,fun i hi=>?_,a4⟩
  refine(LM (vs:=[kl.getD ((4 * t).toNat+0) 0,kl.getD ((4 * t).toNat+1) 0,kl.getD ((4 * t).toNat+2) 0,kl.getD ((4 * t).toNat+3) 0]) aaw i).trans ?_;by_cases h3:i < t.toNat * 4
  .rw[if_pos h3];exact hle i (by omega)
  .rw[if_neg h3,if_pos (by show i < t.toNat * 4+4;omega),afd (by omega)];have h4:i=(4 * t).toNat+0∨i=(4 * t).toNat+1∨i=(4 * t).toNat+2∨i=(4 * t).toNat+3:=by omega
   have e4:t.toNat * 4=(4 * t).toNat:=by omega
   rw[e4];rcases h4 with h | h | h | h <;> rw[h]
   .rw[show(4 * t).toNat+0 - (4 * t).toNat=0 by omega];rfl
   .rw[show(4 * t).toNat+1 - (4 * t).toNat=1 by omega];rfl
   .rw[show(4 * t).toNat+2 - (4 * t).toNat=2 by omega];rfl
   .rw[show(4 * t).toNat+3 - (4 * t).toNat=3 by omega];rfl
 refine Ar.i64 (by omega) (Ix.arr (by omega) (by omega) ?_);have ev:∀j,j < 4->l.getD ((t - 1).toNat * 4+j) 0=WL.getD (4 * (t.toNat - 1)+j) 0:=fun j hj=>by rw[show(t - 1).toNat * 4+j=4 * (t.toNat - 1)+j by omega];exact hle _ (by omega)
 have c0:=al.xy (i:=(t - 1).toNat * 4+0) (by omega);have c1:=al.HJ (o:=(t - 1).toNat * 4) (j:=1) (by omega);have c2:=al.HJ (o:=(t - 1).toNat * 4) (j:=2) (by omega);have c3:=al.HJ (o:=(t - 1).toNat * 4) (j:=3) (by omega);rw[ev 0 (by decide)]at c0;rw[ev 1 (by decide)]at c1;rw[ev 2 (by decide)]at c2;rw[ev 3 (by decide)]at c3;have by0:By (WL.getD (4 * (t.toNat - 1)+0) 0):=wB.get _;have Sf:By (WL.getD (4 * (t.toNat - 1)+1) 0):=wB.get _;have VJ:By (WL.getD (4 * (t.toNat - 1)+2) 0):=wB.get _;have by3:By (WL.getD (4 * (t.toNat - 1)+3) 0):=wB.get _;have gB:=fun p=>Ys (k:=kz) wB t.toNat p
 have gE:∀p,gw kz WL t.toNat p=if t.toNat % kz=0 then(if p=0 then xr (sb (WL.getD (4 * (t.toNat - 1)+1) 0)) (pw 2 ((t.toNat / kz - 1:Nat):Int)) else sb (WL.getD (4 * (t.toNat - 1)+(p+1) % 4) 0))
  else if kz=8/\t.toNat % 8=4 then sb (WL.getD (4 * (t.toNat - 1)+p) 0) else WL.getD (4 * (t.toNat - 1)+p) 0:=fun p=>rfl
 have g0:=gE 0;have g1:=gE 1;have g2:=gE 2;have g3:=gE 3;clear gE;simp only[show(0+1) % 4=1 from rfl,show(1+1) % 4=2 from rfl,show(2+1) % 4=3 from rfl,show(3+1) % 4=0 from rfl,show((1:Nat)=0)=False by simp,show((2:Nat)=0)=False by simp,show((3:Nat)=0)=False by simp,if_true,if_false]at g0 g1 g2 g3;refine⟨_,c0,_,c1,_,c2,_,c3,fun b w5 n5=>⟨rfl,?_⟩⟩;have s5:=n5.at_;have z5:=n5.size;have ltx:=x3.size;generalize WL.getD (4 * (t.toNat - 1)+0) 0=q0 at *;generalize WL.getD (4 * (t.toNat - 1)+1) 0=q1 at *;generalize WL.getD (4 * (t.toNat - 1)+2) 0=q2 at *;generalize WL.getD (4 * (t.toNat - 1)+3) 0=q3 at *;refine aA.xT (l':=[q0,q1,q2,q3]) (l:=[0,0,0,0]) n5.get rfl fun w6 a6 x6=>?_
 have i6:Inv w6 (4 * t.toNat):=⟨(x3.no n5.ext).out x6 (by omega),l,hl,hle,(al.ext n5.ext fun h=>h).ext x6 (by omega)⟩
 have Sg:b≠bs:=by omega
 have zQ:w1.heap.size<=b:=by omega
 refine⟨fun w'=>Inv w' (4 * t.toNat)/\aA w'.heap b 442 .u8 [gw kz WL t.toNat 0,gw kz WL t.toNat 1,gw kz WL t.toNat 2,gw kz WL t.toNat 3],⟨by omega,?_⟩,?_⟩
 .have em:Int.tmod t (kz:Int)=((t.toNat % kz:Nat):Int):=by rw[k_ (by omega)];rcases hkz with rfl | rfl <;> omega
  refine Nm.as em (If.beq (fun he=>?_) fun he=>?_)
  .have hd:Int.tdiv t (kz:Int)=t / (kz:Int):=pf (by omega);have hd3:t / (kz:Int) - 1=((t.toNat / kz - 1:Nat):Int):=by rcases hkz with rfl | rfl <;> omega
   have hd2:1<=t / (kz:Int)/\t / (kz:Int)<=60:=by rcases hkz with rfl | rfl <;> omega
   rw[if_pos (by omega)]at g0 g1 g2 g3;refine⟨Ext No w6,(Ext.refl _ _).drew,by decide,by decide,q1,a6.held (fun h=>h) (t:=1) (by decide) (by simp),by omega,?_⟩;rw[hd];refine Ar.i64 (by omega) (Ar.i64 (by omega) (Ar.u32 (by omega) ⟨by decide,by decide,q2,a6.held (fun h=>h) (t:=2) (by decide) (by simp),by decide,by decide,q3,a6.held (fun h=>h) (t:=3) (by decide) (by simp),by decide,by decide,q0,a6.held (fun h=>h) (t:=0) (by decide) (by simp),?_⟩))
   refine kZ Sf fun w7 x7=>⟨x7.an,Fs ⟨by omega,by omega⟩ ⟨by omega,by omega⟩ ⟨x7.an,Nm.as (bY (HE Sf) (Ta _ ⟨by decide,by decide⟩)) (kZ VJ fun w9 x9=>⟨x7.an.no x9,kZ by3 fun eK dQ=>⟨(x7.an.no x9).no dQ,kZ by0 fun eM nH=>?_⟩⟩)⟩⟩
   have WM:Ext No w6 eM:=((x7.an.no x9).no dQ).no nH;refine⟨WM,_,_,_,_,eM,BP,WM,rfl,?_⟩;have i11:=Jj i6 WM
   refine aA.xT (l':=[xr (sb q1) (pw 2 (t / (kz:Int) - 1)),sb q2,sb q3,sb q0]) (a6.ext WM fun h=>h) rfl fun fV WN iY=>⟨⟨i11.1.out iY zQ,?_⟩,?_⟩
   .obtain⟨l',o1,o2,o3⟩:=i11.2;exact⟨l',o1,o2,o3.ext iY (Ne.symm Sg)⟩
   .rw[g0,g1,g2,g3,<- hd3];exact WN
  .rw[if_neg (by omega)]at g0 g1 g2 g3;refine⟨fun v w'=>w'=w6/\v=decide (kz=8/\t.toNat % 8=4),If.beq (fun h8=>⟨by decide,Nm.mk ⟨rfl,?_⟩⟩) (fun h8=>⟨rfl,?_⟩),?_⟩
   .rw[Bool.eq_iff_iff,beq_iff_eq,decide_eq_true_iff,k_ (by omega)];constructor
    .intro h9;exact⟨by omega,by omega⟩
    .intro h9;omega
   .exact(decide_eq_false (by omega)).symm
   rintro _ t1 lR ⟨rfl,rfl⟩;refine If.dec (fun h8=>?_) fun h8=>?_
   .rw[if_pos h8]at g0 g1 g2 g3;refine⟨Ext No lR,(Ext.refl _ _).drew,by decide,by decide,q0,a6.held (fun h=>h) (t:=0) (by decide) (by simp),by decide,by decide,q1,a6.held (fun h=>h) (t:=1) (by decide) (by simp),by decide,by decide,q2,a6.held (fun h=>h) (t:=2) (by decide) (by simp),by decide,by decide,q3,a6.held (fun h=>h) (t:=3) (by decide) (by simp),?_⟩
    refine kZ by0 fun w7 x7=>⟨x7.an,kZ Sf fun w9 x9=>⟨x7.an.no x9,kZ VJ fun eK dQ=>⟨(x7.an.no x9).no dQ,kZ by3 fun eM nH=>?_⟩⟩⟩
    have WM:Ext No lR eM:=((x7.an.no x9).no dQ).no nH;refine⟨WM,_,_,_,_,eM,BP,WM,rfl,?_⟩;have i11:=Jj i6 WM
    refine aA.xT (l':=[sb q0,sb q1,sb q2,sb q3]) (a6.ext WM fun h=>h) rfl fun fV WN iY=>⟨⟨i11.1.out iY zQ,?_⟩,?_⟩
    .obtain⟨l',o1,o2,o3⟩:=i11.2;exact⟨l',o1,o2,o3.ext iY (Ne.symm Sg)⟩
    .rw[g0,g1,g2,g3];exact WN
   .rw[if_neg h8]at g0 g1 g2 g3;rw[g0,g1,g2,g3];exact⟨i6,a6⟩
 .rintro _ yZ ⟨i21,aq⟩;clear g0 g1 g2 g3
  have gv:∀p,p < 4->[gw kz WL t.toNat 0,gw kz WL t.toNat 1,gw kz WL t.toNat 2,gw kz WL t.toNat 3].getD p 0=gw kz WL t.toNat p:=fun p hp=>by
   have h4:p=0∨p=1∨p=2∨p=3:=by omega
   rcases h4 with rfl | rfl | rfl | rfl <;> rfl
  refine⟨fun m' t' w'=>t'=4 - (m':Int)/\m'<=4/\Inv w' (4 * t.toNat+t'.toNat)/\aA w'.heap b 442 .u8 [gw kz WL t.toNat 0,gw kz WL t.toNat 1,gw kz WL t.toNat 2,gw kz WL t.toNat 3],⟨4,by omega,by omega,i21,aq⟩,?_⟩;rintro _ m2 t2 DT ⟨ht2,hm2,i22,aq2⟩;refine If.dec (fun h3=>?_) fun h3=>Ar.i64 (by omega) ⟨m - 1,by omega,by omega,by omega,by rw[show 4 * (t+1).toNat=4 * t.toNat+t2.toNat by omega];exact i22⟩
  obtain⟨Si,l2,Oe,acJ,al2⟩:=i22;have e1:∀i:Int,0<=i->i < n->i.toNat * 4+t2.toNat < l2.length:=fun i h1 h2=>by omega
  have hq:=aq2.held (S:=No) (fun h=>h) (t:=t2) (by omega) (by show t2 < 4;omega);rw[gv _ (by omega)]at hq;have VK:=al2.Ft (S:=No) (fun h=>h) (o:=(t - (kz:Int)).toNat * 4) (j:=t2.toNat * 1) (by have:=e1 (t - kz) (by omega) (by omega);omega);have Tu:(t - (kz:Int)).toNat * 4+t2.toNat * 1=4 * (t.toNat - kz)+t2.toNat:=by omega
  rw[Tu,acJ _ (by omega)]at VK;refine⟨Ext No DT,(Ext.refl _ _).drew,by omega,by omega,_,hq,Ar.i64 (by omega) (Ix.arr (by omega) (by omega) ⟨by omega,by omega,_,VK,Nm.as (bY (gB _) (wB.get _)) (Ix.arr (by omega) (by omega) ⟨by omega,by omega,?_⟩)⟩)⟩;have ad:aA (ae DT).heap bs 442 .u8 l2:=al2;have ahD:=Si.size;have ahE:=al2.lt;have aN:=e1 t (by omega) (by omega);rw[ay rfl];refine aA.Tg ad (by show t.toNat * 4+t2.toNat * 1 < _;omega) fun Jm a23 DU=>?_
  have DU:Ext (fun i=>i=bs) (ae DT) Jm:=DU;refine Ar.i64 (by omega) ⟨m2 - 1,by omega,by omega,by omega,⟨Si.drew.out DU (by omega),_,by simpa using Oe,fun i hi=>?_,a23⟩,(show aA (ae DT).heap b 442 .u8 _ from aq2).ext DU Sg⟩;rw[uL _ _ _ _ (by omega)];by_cases h4:i=t.toNat * 4+t2.toNat * 1
  .rw[if_pos h4,h4,show t.toNat * 4+t2.toNat * 1=4 * t.toNat+t2.toNat by omega];exact(acH (t:=t.toNat) (p:=t2.toNat) (by omega) (by omega) (by omega)).symm
  .rw[if_neg h4];exact acJ i (by omega)
end
end Go.Proofs.YtiigcapldngijaaGreat
namespace Go.V
section
variable {w w':Wd} {s:Sl} {ks:IntKind} {l:List Int} {sz:Nat}
theorem Rd.BQ(r:Rd w.heap s sz (l.map (Value.int ks))){lo hi:Int}{K:Sl->Prop}(h0:0<=lo)(h1:lo<=hi)(h2:hi<=(s.len:Int))
  (hk:∀s',Rd w.heap s' sz (((l.drop (lo.toNat * sz)).take ((hi - lo).toNat * sz)).map (Value.int ks))->s'.len=(hi - lo).toNat->K s'):Cut s lo hi (((s.cap:Nat):Int)) sz K:=by
 have iv:=r.cap;refine Cut.mk h0 h1 (by omega) (Int.le_refl _) (hk _ ?_ rfl);have:=r.cut (lo:=lo.toNat) (hi:=hi.toNat) (mx:=s.cap) (by omega) (by omega) (by omega);have e1:hi.toNat - lo.toNat=(hi - lo).toNat:=by omega
 have e2:s.cap - lo.toNat=((s.cap:Int) - lo).toNat:=by omega
 rw[e1,e2]at this;simpa[List.map_take,List.map_drop] using this
theorem aA.rdN{b n:Nat}{T:TypeId}(a:aA w.heap b T ks l)(h:l.length=n * sz):Rd w.heap ⟨some ⟨b,0,none⟩,n,n⟩ sz (l.map (Value.int ks)):=by
 refine⟨by simpa using h,Nat.le_refl _,fun _=>⟨b,0,rfl,fun i hi=>?_⟩,fun v hv=>df v hv⟩;have qO:i < l.length:=by simpa using hi
 have:=a.xy qO;unfold Cell at this;rw[fE]at this;rw[Nat.zero_add,this];simp[List.getD_eq_getElem?_getD,List.getElem?_eq_getElem qO]
end
end Go.V
namespace Go.Proofs.YtiigcapldngijaaGreat
open Go.V
def Fu(w:Wd)(c:Nat)(kl:List Int):Prop:=∃(bs n:Nat) (Gg:List Int),n=4 * (kl.length / 4+7)/\(kl.length=16∨kl.length=32)/\B8 kl/\Gg.length=512/\(∀i:Nat,i < 256->Gg.getD i 0=sb (i:Int))/\aA w.heap bs 442 .u8 (fo kl)/\w.heap[c]? = some (.cells (Value.slice (some ⟨bs,0,none⟩) n n::Gg.map (Value.int .u8)).toArray 365 (0,0))
theorem LN{s w:List Int}{j:Nat}:Da s ((w.drop (16 * j)).take 16) 0=Da s w j:=dz fun i hi=>by
 congr 1;simp only[List.getD_eq_getElem?_getD];rw[List.getElem?_take_of_lt (by omega),List.getElem?_drop];congr 2;omega
section
variable {w w':Wd}
theorem Fu.no{c:Nat}{kl:List Int}(h:Fu w c kl)(x:Ext No w w'):Fu w' c kl:=by
 obtain⟨bs,n,Gg,h1,h2,h3,h4,h5,h6,h7⟩:=h;exact⟨bs,n,Gg,h1,h2,h3,h4,h5,h6.ext x fun h=>h,by rw[x.aw c (Array.getElem?_eq_some_iff.1 h7).1 fun h=>h];exact h7⟩
theorem Yz{b o:Nat}{v:Value}{T:TypeId}{Gg:List Int}{z:Int}{K:Pw}(h:w.heap[b]? = some (.cells (v::Gg.map (Value.int .u8)).toArray T (0,0)))(ho:o < Gg.length)
  (hk:∀w',w'.heap[b]? = some (.cells (v::(Gg.set o z).map (Value.int .u8)).toArray T (0,0))->Ext (·=b) w w'->K w'):aH w ⟨b,o+1,none⟩ (.int .u8 z) K:=by
 refine aH.mk (cs:=v::Gg.map (Value.int .u8)) h (by simp;omega) rfl fun w' hw=>hk w' ?_ hw.ext
 have:=hw.get h
 rwa [List.set_cons_succ,<- List.map_set]at this
theorem Fu.tab{c:Nat}{kl:List Int}(h:Fu w c kl):Oc w c 1:=by
 obtain⟨bs,n,Gg,h1,h2,h3,h4,h5,h6,h7⟩:=h;intro i hi;rw[<- h5 i hi];refine aj.cell (Cell.af h7 ?_);rw[Nat.add_comm,List.getElem?_cons_succ,List.getElem?_map,List.getElem?_eq_getElem (show i < Gg.length by omega)];simp[List.getD_eq_getElem?_getD,List.getElem?_eq_getElem (show i < Gg.length by omega)]
theorem oc{key:Sl}{kl:List Int}{K:Option Addr->Int->Pw}(hk:Rd w.heap key 1 (kl.map (Value.int .u8)))(jj:B8 kl)(hlen:key.len=16∨key.len=32)
  (k:∀c w',Fu w' c kl->w.heap.size<=c->Ext No w w'->K (some ⟨c,0,none⟩) 0 w'):oD key w K:=by
 apply QI;have Cy:kl.length=key.len:=by have:=hk.len;simpa using this
 refine Od hk jj hlen fun bs n w1 hn a hbs x1=>If.bne (fun h=>absurd rfl h) fun _=>?_
 refine fun b w2 n2=>?_
 have s2:=n2.at_;have z2:=n2.size;have Yx:=x1.size;have ltb:=a.lt
 refine⟨fun m t w'=>t=256 - (m:Int)/\m<=256/\Ext No w w'/\aA w'.heap bs 442 .u8 (fo kl)/\∃Gg,Gg.length=512/\(∀i:Nat,i < t.toNat->Gg.getD i 0=sb (i:Int))/\w'.heap[b]? = some (.cells (Value.slice (some ⟨bs,0,none⟩) n n::Gg.map (Value.int .u8)).toArray 365 (0,0)),
  ⟨256,by omega,by omega,x1.no n2.ext,a.ext n2.ext fun h=>h,List.replicate 512 0,by simp,fun i hi=>by simp at hi,by have:=n2.get;rw[List.map_replicate];exact this⟩,?_⟩
 rintro _ m t w3 ⟨ht,hm,x3,a3,Gg,htl,htB,ht3⟩;refine If.dec (fun h=>?_) fun h=>k b w3 ⟨bs,n,Gg,hn,by omega,jj,htl,fun i hi=>htB i (by omega),a3,ht3⟩ (by omega) x3
 have hr:By (sb t):=HE ⟨by omega,by omega⟩
 refine Ar.u8 (by omega) (kZ ⟨by omega,by omega⟩ fun w4 x4=>Nn.mk ⟨by omega,by omega,?_⟩);have acK:bs≠b:=by omega
 have Yy:=x3.size;have Ts:=x4.size;have ht4:w4.heap[b]? = some (.cells (Value.slice (some ⟨bs,0,none⟩) n n::Gg.map (Value.int .u8)).toArray 365 (0,0)):=by rw[x4.aw b (Array.getElem?_eq_some_iff.1 ht3).1 fun h=>h];exact ht3
 rw[ay rfl];show aH w4 ⟨b,0+1+t.toNat * 1,none⟩ _ _;rw[show 0+1+t.toNat * 1=t.toNat+1 by omega];refine Yz ht4 (by omega) fun w5 ht5 x5=>Ar.u8 (by omega) (Nn.mk ⟨hr.1,by have:=hr.2;omega,?_⟩)
 rw[ay rfl];show aH w5 ⟨b,0+257+(sb t).toNat * 1,none⟩ _ _;rw[show 0+257+(sb t).toNat * 1=(256+(sb t).toNat)+1 by omega];have:=hr.1;have:=hr.2;refine Yz ht5 (by simp;omega) fun w6 ht6 x6=>Ar.i64 (by omega) ⟨m - 1,by omega,by omega,by omega,((x3.no x4).out x5 (by omega)).out x6 (by omega),((a3.ext x4 fun h=>h).ext x5 acK).ext x6 acK,_,by simpa using htl,fun i hi=>?_,ht6⟩
 rw[uL _ _ _ _ (by simp;omega),if_neg (by omega),uL _ _ _ _ (by omega)];by_cases h2:i=t.toNat
 .rw[if_pos h2];congr 1;omega
 .rw[if_neg h2];exact htB i (by omega)
theorem LO{cb b1 b2:Nat}{R:Int}{b0 wl:List Int}{K:List Int->Int->Pw}(w0:Wd)(hc:Oc w0 cb 1)(hR:∃bs n:Nat,(n:Int)=4 * (R+1)/\1<=R/\R<=20/\wl.length=n * 4/\aA w0.heap bs 442 .u8 wl/\aj (Ext No w0) ⟨cb,0,none⟩ (.slice (some ⟨bs,0,none⟩) n n))
  (x:Ext No w0 w) (h1:w0.heap.size<=b1) (h2:w0.heap.size<=b2) (hb:b1≠b2) (hb0:B8 b0) (A_:B8 wl) (a:aA w.heap b2 367 .u8 (Da b0 wl 0)) (a1:aA w.heap b1 273 .u8 (List.replicate 16 0)) (k:∀w',Ext No w0 w'->K (QB wl R.toNat b0) 0 w') :
  ∃I0:Nat->Int->Pw,(∃m,I0 m 1 w)/\∀(_:Env)(m0:Nat)(j:Int)(w8:Wd),I0 m0 j w8->
  If (decide (j<=R)) (
  ∃S:Pw,S (ae w8)/\
  ∃l_3:List Int,l_3.length=16/\de (aj S) (Addr.mk b2 0 none) 0 .u8 l_3/\
  Nn (some ⟨cb,0,none⟩) fun a_2=>
  fO l_3 (some (a_2.add 1)) (ae w8) fun afe w9=>
  S w9/\
  fc afe 1 w9 fun WO eK=>
  S eK/\
  List.length (α:=Value) (List.map (Value.int .u8) WO++[])=16/\bO eK (Addr.mk b2 0 none) (List.map (Value.int .u8) WO++[]) fun eM=>
  ∃J0:Pw,(
  If (decide (j < R)) (
  ∃l_4:List Int,l_4.length=16/\de (Cell eM) (Addr.mk b2 0 none) 0 .u8 l_4/\
  dI l_4 (.func (.func 273) #[] #[]) eM fun QP gO=>
  List.length (α:=Value) (List.map (Value.int .u8) QP++[])=16/\bO gO (Addr.mk b2 0 none) (List.map (Value.int .u8) QP++[]) fun fV=>
  J0 fV) (
  J0 eM))/\∀(_:Env)(lR:Wd),J0 lR->
  ∃S:Pw,S (ae lR)/\
  ∃l_5:List Int,l_5.length=16/\de (aj S) (Addr.mk b2 0 none) 0 .u8 l_5/\
  Nn (some ⟨cb,0,none⟩) fun a_3=>
  ∃oW:Sl,aj S a_3 (.slice oW.a oW.len oW.cap)/\
  Ar .i64 (4 * j) fun z_2=>
  Ar .i64 (4 * j) fun YA=>
  Ar .i64 (YA+4) fun z_4=>
  Cut oW z_2 z_4 (((oW.cap:Nat):Int)) 4 fun s_1=>
  dC l_5 s_1 (ae lR) fun Jn mU=>
  S mU/\
  List.length (α:=Value) (List.map (Value.int .u8) Jn++[])=16/\bO mU (Addr.mk b2 0 none) (List.map (Value.int .u8) Jn++[]) fun iB=>
  Ar .i64 (j+1) fun z_5=>
  ∃m1,m1 < m0/\I0 m1 z_5 iB) (
  ∃l_6:List Int,l_6.length=16/\de (Cell w8) (Addr.mk b2 0 none) 0 .u8 l_6/\
  List.length (α:=Value) (List.map (Value.int .u8) l_6++[])=16/\bO w8 (Addr.mk b1 0 none) (List.map (Value.int .u8) l_6++[]) fun pJ=>
  ∃l_7:List Int,l_7.length=16/\de (Cell pJ) (Addr.mk b1 0 none) 0 .u8 l_7/\
  qm .u8 16 (List.map (Value.int .u8) l_7++[]) fun l_8 aff=>i_ [] aff (K l_8) fun afg=>
  afg 0 pJ):=by
 obtain⟨bs,n,hn,hR1,hR2,Of,hw,hh⟩:=hR
 let Inv:Wd->List Int->Prop:=fun w' l=>Ext No w0 w'/\aA w'.heap b1 273 .u8 (List.replicate 16 0)/\l.length=16/\aA w'.heap b2 367 .u8 l
 have st:∀{u u':Wd}{l q:List Int}{K':Pw},Inv u l->Ext No u u'->q.length=16->(∀u2,Inv u2 q->K' u2)->List.length (α:=Value) (List.map (Value.int .u8) q++[])=16/\bO u' (Addr.mk b2 0 none) (List.map (Value.int .u8) q++[]) K':=fun {u u' l q K'} h x hq hk=>by
  obtain⟨h1',h2',h3',h4'⟩:=h;refine⟨by rw[List.append_nil,List.length_map];exact hq,(h4'.ext x fun h=>h).xT (by rw[hq,h3']) fun u3 a3 x3=>hk u3 ⟨(h1'.no x).out x3 h2,(h2'.ext x fun h=>h).ext x3 hb,hq,a3⟩⟩
 refine⟨fun m t w'=>t=R+1 - (m:Int)/\m<=R.toNat/\Inv w' (K3 wl R.toNat b0 (t.toNat - 1)),⟨R.toNat,by omega,Nat.le_refl _,x,a1,(wj hb0 A_ 0).1,a⟩,?_⟩;rintro _ m t w8 ⟨ht,hm,i8⟩;have i8':=i8;have Sj:=IA (last:=R.toNat) hb0 A_ (t.toNat - 1);obtain⟨x8,a18,_,a8⟩:=i8;refine If.dec (fun h=>?_) fun h=>?_
 .have ee:K3 wl R.toNat b0 ((t+1).toNat - 1)=Wp wl R.toNat (K3 wl R.toNat b0 (t.toNat - 1)) t.toNat:=by
   obtain⟨j,hj⟩ : ∃j,t.toNat=j+1:=⟨t.toNat - 1,by omega⟩
   rw[show(t+1).toNat - 1=j+1 by omega,hj];rfl
  generalize K3 wl R.toNat b0 (t.toNat - 1)=l8 at *;refine⟨Ext No w8,(Ext.refl _ _).drew,l8,Sj.1,a8.aal fun h=>h,Nn.mk (QO (tb:=cb) (o:=1) Sj (Oc.no hc x8.drew) fun w9 x9=>⟨x9.an,Ob (Iy Sj.2) fun eK dQ=>⟨x9.an.no dQ,?_⟩⟩)⟩;have Jo:=Tb (Iy Sj.2).2;refine st (u:=w8) i8' (x9.an.no dQ) Jo.1 fun eM i11=>?_
  refine⟨fun w'=>Inv w' (if t.toNat < R.toNat then QA (Wo (Iw l8)) else Wo (Iw l8)),If.dec (fun ht2=>⟨_,Jo.1,i11.2.2.2.row,Jl Jo fun gO lJ=>st i11 lJ (Iz _).1 fun fV i13=>by rw[if_pos (by omega)];exact i13⟩) fun ht2=>by rw[if_neg (by omega)];exact i11,?_⟩;rintro _ lR i14
  have aax:ia (if t.toNat < R.toNat then QA (Wo (Iw l8)) else Wo (Iw l8)):=by
   split
   .exact Iz _
   .exact Jo
  have afh:=i14;obtain⟨iT,ahF,_,a14⟩:=i14;refine⟨Ext No lR,(Ext.refl _ _).drew,_,aax.1,a14.aal fun h=>h,Nn.mk ⟨⟨some ⟨bs,0,none⟩,n,n⟩,fun u hu=>hh u (iT.no hu),Ar.i64 (by omega) (Ar.i64 (by omega) (Ar.i64 (by omega) ?_))⟩⟩
  have hwd:aA (ae lR).heap bs 442 .u8 wl:=(hw.ext iT.drew fun h=>h)
  refine(hwd.rdN Of).BQ (by omega) (by omega) (by show 4 * t+4<=(n:Int);omega) fun s' CZ od=>?_
  have WQ:(wl.drop ((4 * t).toNat * 4)).take ((4 * t+4 - 4 * t).toNat * 4)=(wl.drop (16 * t.toNat)).take 16:=by
   rw[show(4 * t).toNat * 4=16 * t.toNat by omega,show(4 * t+4 - 4 * t).toNat * 4=16 by omega]
  rw[WQ]at CZ
  refine vF aax ((A_.drop _).take _) CZ (by rw[od];simp;omega) (by omega) fun mU ld=>⟨ld.an,?_⟩
  rw[LN];exact st afh ld.an (wj aax.2 A_ _).1 fun iB i16=>Ar.i64 (by omega) ⟨m - 1,by omega,by omega,by omega,by rw[ee];exact i16⟩
 .have e:K3 wl R.toNat b0 (t.toNat - 1)=QB wl R.toNat b0:=by unfold QB;congr 1;omega
  rw[e]at a8 Sj;refine⟨_,Sj.1,a8.row,by rw[List.append_nil,List.length_map];exact Sj.1,a18.xT (by rw[Sj.1];simp) fun pJ a17 Eg=>⟨_,Sj.1,a17.row,qm.mk Sj.1 (k pJ (x8.out Eg h1))⟩⟩
def encB(kl b:List Int):List Int:=QB (fo kl) (kl.length / 4+6) b
theorem ju{kl b:List Int}(hk:B8 kl)(hb:B8 b):ia (encB kl b):=Ws hb (Bl hk)
theorem jk{cb:Nat}{b0 kl:List Int}{K:List Int->Int->Pw}(hc:Fu w cb kl)(hb:ia b0)(k:∀w',Ext No w w'->K (encB kl b0) 0 w'):bU (some ⟨cb,0,none⟩) b0 w K:=by
 apply vm;refine fun b w1 n1 b1 w2 n2=>If.no (Nn.mk ?_)
 have s1:=n1.at_;have s2:=n2.at_;have z1:=n1.size;have z2:=n2.size;have x2:Ext No w w2:=n1.ext.no n2.ext;have acL:=hc.tab;obtain⟨bs,n,Gg,hn,Cy,jj,h3,h4,VL,h60⟩:=hc
 obtain⟨kz,hkz⟩ : ∃kz,kl.length=4 * kz:=⟨kl.length / 4,by omega⟩
 have A_:(fo kl).length=n * 4:=by rw[EK hkz];omega
 have GY:=Bl jj;have hw:aA w2.heap bs 442 .u8 (fo kl):=VL.ext x2 fun h=>h
 have h6:w2.heap[cb]? = some (.cells (Value.slice (some ⟨bs,0,none⟩) n n::Gg.map (Value.int .u8)).toArray 365 (0,0)):=by rw[x2.aw cb (Array.getElem?_eq_some_iff.1 h60).1 fun h=>h];exact h60
 have hh:aj (Ext No w2) ⟨cb,0,none⟩ (.slice (some ⟨bs,0,none⟩) n n):=aj.cell (Cell.af h6 rfl);have e4:Int.tdiv ((n:Int)) 4=(n:Int) / 4:=pf (by omega);have ek:encB kl b0=QB (fo kl) ((n:Int) / 4 - 1).toNat b0:=by unfold encB;congr 1;omega
 rw[ek]at k;refine⟨⟨some ⟨bs,0,none⟩,n,n⟩,Cell.af h6 rfl,by decide,?_⟩;show Ar .i64 (Int.tdiv ((n:Int)) 4) _;rw[e4];have a0:aA w2.heap b 273 .u8 b0:=(aA.new n1).ext n2.ext fun h=>h
 have a1:aA w2.heap b1 273 .u8 (List.replicate 16 0):=n2.get;refine Ar.i64 (by omega) (Ar.i64 (by omega) ⟨Ext No w2,(Ext.refl _ _).drew,b0,hb.1,a0.aal (fun h=>h),Nn.mk ⟨⟨some ⟨bs,0,none⟩,n,n⟩,hh,?_⟩⟩);have hwd:aA (ae w2).heap bs 442 .u8 (fo kl):=hw;refine(hwd.rdN A_).BQ (by decide) (by decide) (by show(4:Int)<=(n:Int);omega) fun s' CZ od=>?_
 have Yx:=a1.lt
 have hR1:∃bs n':Nat,(n':Int)=4 * (((n:Int) / 4 - 1)+1)/\1<=(n:Int) / 4 - 1/\(n:Int) / 4 - 1<=20/\(fo kl).length=n' * 4/\aA w.heap bs 442 .u8 (fo kl)/\aj (Ext No w) ⟨cb,0,none⟩ (.slice (some ⟨bs,0,none⟩) n' n'):=⟨bs,n,by omega,by omega,by omega,A_,VL,aj.cell (Cell.af h60 rfl)⟩
 generalize fo kl=wl at *;have YB:B8 ((wl.drop ((0:Int).toNat * 4)).take ((4 - 0:Int).toNat * 4)):=(GY.drop _).take _;have WQ:Da b0 ((wl.drop ((0:Int).toNat * 4)).take ((4 - 0:Int).toNat * 4)) 0=Da b0 wl 0:=LN (j:=0);have hq:=(wj hb.2 GY 0).1;constructor
 .refine vF hb YB CZ (by rw[od];simp;omega) (by rw[od];decide) fun w5 x5=>⟨x5.an,fun b2 w6 n6=>⟨x5.an.no n6.ext,?_⟩⟩
  rw[WQ];refine⟨by rw[List.append_nil,List.length_map];exact hq,?_⟩;have s6:=n6.at_;have lt5:=x5.size;have e5:(ae w2).heap.size=w2.heap.size:=rfl;refine aA.xT (l:=List.replicate 16 0) n6.get (by rw[hq];rfl) fun w7 a7 x7=>?_
  refine LO w acL hR1 (((x2.no x5.an).no n6.ext).out x7 (by omega)) (by omega) (by omega) (by omega) hb.2 GY a7 ?_ k;exact(((a1.ext x5.an fun h=>h).ext n6.ext fun h=>h)).ext x7 (by omega)
 .refine fun b2 w6 n6=>⟨n6.ext.an,vF hb YB (CZ.no n6.ext) (by rw[od];simp;omega) (by rw[od];decide) fun w5 x5=>⟨n6.ext.an.no x5,?_⟩⟩
  rw[WQ];refine⟨by rw[List.append_nil,List.length_map];exact hq,?_⟩;have s6:=n6.at_;have lt5:=x5.size;have e5:(ae w2).heap.size=w2.heap.size:=rfl;refine aA.xT (l:=List.replicate 16 0) ((show aA w6.heap b2 367 .u8 (List.replicate 16 0) from n6.get).ext x5 fun h=>h) (by rw[hq];rfl) fun w7 a7 x7=>?_
  refine LO w acL hR1 (((x2.no n6.ext.an).no x5).out x7 (by omega)) (by omega) (by omega) (by omega) hb.2 GY a7 ?_ k;exact(((a1.ext n6.ext.an fun h=>h).ext x5 fun h=>h)).ext x7 (by omega)
end
end Go.Proofs.YtiigcapldngijaaGreat
namespace Go.V
def be:Nat->Int->List Int
 | 0,_=>[]
 | k+1,n=>be k (n / 256)++[n % 256]
theorem aK:∀(k:Nat)(n:Int),(be k n).length=k
 | 0,_=>rfl
 | k+1,n=>by simp[be,aK k]
theorem cv:∀(k:Nat)(n:Int),B8 (be k n)
 | 0,_=>B8.nil
 | k+1,n=>(cv k _).append (B8.cons (by omega) B8.nil)
def num(l:List Int):Int:=l.foldl (fun n x=>n * 256+x) 0
theorem Fv(l:List Int)(x:Int):num (l++[x])=num l * 256+x:=by simp[num]
theorem Jp:∀(l:List Int)(a:Int),B8 l->0<=a->0<=l.foldl (fun n x=>n * 256+x) a/\l.foldl (fun n x=>n * 256+x) a < (a+1) * 256 ^ l.length
 | [],a,_,h=>by simp;omega
 | x::l,a,h8,h=>by
  have hx:=h8 x List.mem_cons_self;have ih:=Jp l (a * 256+x) (h8.sub fun _ h=>List.mem_cons_of_mem _ h) (by omega);rw[List.foldl_cons,List.length_cons,Int.pow_succ];refine⟨ih.1,Int.lt_of_lt_of_le ih.2 ?_⟩;rw[Int.mul_comm (256 ^ l.length) 256,<- Int.mul_assoc];exact Int.mul_le_mul_of_nonneg_right (by omega) (Int.le_of_lt (Int.pow_pos (by omega)))
theorem num_nonneg{l:List Int}(h:B8 l):0<=num l:=(Jp l 0 h (by omega)).1
theorem jQ:∀(k:Nat){n:Int},0<=n->n < 256 ^ k->num (be k n)=n
 | 0,n,h0,h1=>by simp at h1;simp[be,num];omega
 | k+1,n,h0,h1=>by
  have e:(256:Int) ^ (k+1)=256 ^ k * 256:=Int.pow_succ _ _;rw[be,Fv,jQ k (by omega) (by omega)];omega
theorem Tv{l:List Int}(h:B8 l):num l < 256 ^ l.length:=by have:=(Jp l 0 h (by omega)).2;simpa[num] using this
theorem beF:∀(l:List Int)(k:Nat)(a:Int),B8 l->be (k+l.length) (l.foldl (fun n x=>n * 256+x) a)=be k a++l
 | [],k,a,_=>by simp
 | x::l,k,a,h8=>by
  have hx:=h8 x List.mem_cons_self;have ih:=beF l (k+1) (a * 256+x) (h8.sub fun _ h=>List.mem_cons_of_mem _ h);have e1:(a * 256+x) / 256=a:=by omega
  have e2:(a * 256+x) % 256=x:=by omega
  rw[List.foldl_cons,List.length_cons,show k+(l.length+1)=k+1+l.length by omega,ih,be,e1,e2];simp
theorem aay{l:List Int}(h:B8 l):be l.length (num l)=l:=by have:=beF l 0 0 h;simpa[be,num] using this
theorem LP{n x:Int}(hn:0<=n)(hx:0<=x/\x<=255)(hb:n * 256+x<=18446744073709551615):bI .or .u64 (n * 256) x=n * 256+x:=by
 have h:=Cq (n:=x) (x:=n) (i:=8) ⟨hx.1,by omega⟩ hn (by omega);have e:(2:Int) ^ 8=256:=rfl;rw[e]at h;rw[uJ ⟨by omega,by omega⟩ ⟨by omega,by omega⟩]at h ⊢;rw[Nat.or_comm];rw[h];omega
theorem tP{a b:Int}(ha:0<=a/\a<=255)(hb:0<=b/\b<=255):0<=bI .or .u8 a b/\bI .or .u8 a b<=255/\(bI .or .u8 a b=0 ↔ a=0/\b=0):=by
 have hA:(BitVec.ofInt 8 a).toNat=a.toNat:=cT ha.1 (by omega);have hB:(BitVec.ofInt 8 b).toNat=b.toNat:=cT hb.1 (by omega)
 have e:bI .or .u8 a b=((a.toNat ||| b.toNat:Nat):Int):=by
  show IntKind.u8.wrap ((BitVec.ofInt 8 a ||| BitVec.ofInt 8 b).toNat:Int)=_;rw[BitVec.toNat_or,hA,hB];refine IntWalk.u8_in _ ⟨by omega,?_⟩;have:a.toNat ||| b.toNat < 2 ^ 8:=Nat.or_lt_two_pow (by omega) (by omega)
  omega
 have aN:a.toNat ||| b.toNat < 2 ^ 8:=Nat.or_lt_two_pow (by omega) (by omega)
 refine⟨by omega,by omega,?_⟩;rw[e];have:(a.toNat ||| b.toNat=0) ↔ a.toNat=0/\b.toNat=0:=Nat.or_eq_zero_iff;omega
theorem qE(z:Value)(n:Nat):Builtin.zeroCells #[z] n=(List.replicate n z).toArray:=by
 apply Array.toList_inj.1;simp only[Builtin.zeroCells,Array.toList_map,Array.toList_range];apply List.ext_getElem (by simp);intro i h1 h2;simp[Nat.mod_one]
theorem Fw{P:Program}{t t' e:TypeId}{k:IntKind}{ie:TypeInfo}{z:Value}{w:Wd}{base:Nat}{s:Sl}{n:Nat}{cs:List Value}{K:Sl->Pw}
  (ht:P.underlying t=some (.slice e)) (M_:P.underlying t'=some (.int k)) (hi:P.info? e=some ie) (hz:ie.zero=some z) (rS:ie.size=1) (Sa:z.cells=#[z]) (Qs:cB z=true) (hby:ie.bytes=1)
  (own:aP w.heap base e 1 s cs) (dq:base<=w.heap.size) (hb:s.len+n<=140737488355328)
  (hk:∀s' w',aP w'.heap base e 1 s' (cs++List.replicate n z)->s'.len=s.len+n->Ext (fun b=>s.aw=some b) w w'->(s'.aw=s.aw∨∃b,s'.aw=some b/\w.heap.size<=b)->K s' w'):bj P t t' s (.int .i64 n) K w:=by
 have rd:=own.rd;have hlen:=own.len;simp only[Nat.mul_one]at hlen;have hwr:IntKind.i64.wrap (n:Int)=n:=IntWalk.i64_in _ ⟨by omega,by omega⟩
 have Tk:∀w':Wd,((if n=0 then pure #[] else do pure (Builtin.zeroCells (<- zeroValue e).cells n)):Sem (Array Value)).run P w' = .ok (List.replicate n z).toArray w':=fun w'=>by
  by_cases h0:n=0
  .subst h0;simp
  .simp only[if_neg h0,Sem.run_bind,ja hi hz,Result.andThen_ok,Sa,qE,Sem.run_pure]
 have h48:¬ (281474976710656 < (n:Int)):=by omega
 have YC:¬ ((n:Int) < 0):=by omega
 by_cases nj:s.len+n<=s.cap
 .rcases own.is with⟨rfl,rfl⟩ | ⟨b,rest,ha,hle,wI,hl,hc⟩
  .have hn:n=0:=by simp at nj;omega
   subst hn;refine⟨⟨none,0,0⟩,w,fun ty=>?_,hk _ _ (by simpa using own) rfl (Ext.refl _ _) (.inl rfl)⟩;have VL:IntKind.i64.wrap 0=0:=rfl;simp[Builtin.append_,aD ht,aD M_,bL hi,rS,asInt,asIntOf,VL,kC hi,hby]
  .simp only[Nat.mul_one]at hl;have aN:cs.length+(List.replicate n z).length<=(cs++rest).length:=by simp only[List.length_replicate];omega
   have wg:=rU (P:=P) (b:=b) (T:=e) (fz:=(0,0)) (List.replicate n z) w (cs++rest).toArray cs.length 0 wI (by simpa using aN) (.inr (.inr (Nat.le_refl _))) (fun v hv=>by rw[List.mem_replicate]at hv;rw[hv.2];exact Qs)
   have Gt:setL (cs++rest) cs.length (List.replicate n z)=cs++(List.replicate n z++rest.drop n):=by
    rw[we _ _ _ aN];simp[List.drop_append]
   refine⟨⟨s.a,s.len+n,s.cap⟩,World.cK w b (.cells (cs++List.replicate n z++rest.drop n).toArray e (0,0)),fun ty=>?_,hk _ _ ?_ rfl ?_ (.inl rfl)⟩
   .obtain⟨sa,sl,sc⟩:=s;simp only at ha;subst ha;simp only at hlen nj;have ea:(⟨b,0,none⟩ : Addr).add sl=⟨b,cs.length,none⟩:=by rw[ay rfl,hlen];simp
    have h1:=Tk w;simp only[Nat.add_zero]at wg;by_cases h0:n=0
    .subst h0;have VL:IntKind.i64.wrap 0=0:=rfl;simp at wg Gt;have VK:sl<=sc:=by simpa using nj
     simp[VK,Builtin.append_,aD ht,aD M_,bL hi,rS,asInt,asIntOf,VL,kC hi,hby,ea,wg,Gt]
    .simp only[if_neg h0]at h1;simp[Builtin.append_,aD ht,aD M_,bL hi,rS,asInt,asIntOf,hwr,kC hi,hby,nj,ea,wg,Gt,h0,ja hi hz,Sa,qE,YC,h48]
   .refine⟨by simp;omega,.inr ⟨b,rest.drop n,ha,hle,?_,?_,nj⟩,fun v hv=>?_⟩
    .exact eP wI
    .simp only[List.length_append,List.length_replicate,List.length_drop,Nat.mul_one]at aN hl ⊢;omega
    .rcases List.mem_append.1 hv with h | h
     .exact own.cells v h
     .rw[List.mem_replicate]at h;rw[h.2];exact Qs
   .refine(mG.ext (w:=w) (b:=b) rfl).mono fun i _ hi=>?_
    subst hi;simp[Sl.aw,ha]
 .have iv:s.cap < s.len+n:=by omega
  have HD:=growslice_fits (bytes:=ie.bytes) iv (by rw[hby];omega);have zQ:=grownCap_ge (w:=w) (need:=s.len+n) (old:=s.cap) (e:=e);have hold:=(rd.src (P:=P)).get (ae w) rfl;have hn1:n≠0:=by have:=rd.cap;omega
  refine⟨⟨some ⟨w.heap.size,0,none⟩,s.len+n,grownCap w (s.len+n) s.cap e⟩,World.cL (ae w) (.cells (cs++(List.replicate n z++List.replicate (grownCap w (s.len+n) s.cap e - (s.len+n)) z)).toArray e),fun ty=>?_,hk _ _ ?_ rfl ?_ (.inr ⟨w.heap.size,rfl,Nat.le_refl _⟩)⟩
  .obtain⟨sa,sl,sc⟩:=s;simp only at nj HD hold zQ iv;have Nk:¬ (Builtin.nextslicecap (sl+n) sc > 281474976710656):=by rw[hby]at HD;omega
   have ahG:¬ ((sl:Int)+(n:Int) > IntKind.i64.max):=by
    have:IntKind.i64.max=9223372036854775807:=rfl;simp only at hb;omega
   have acM:¬ (9223372036854775807 < (sl:Int)+(n:Int)):=by simp only at hb;omega
   simp[YC,h48,acM,-run_choose,Builtin.append_,aD ht,aD M_,bL hi,rS,asInt,asIntOf,hwr,nj,kC hi,hby,Nk,oK,hold,hn1,ja hi hz,Sa,qE,gi];refine⟨rfl,?_⟩;congr 2;apply Array.toList_inj.1;simp
  .refine⟨by simp;omega,.inr ⟨w.heap.size,List.replicate (grownCap w (s.len+n) s.cap e - (s.len+n)) z,rfl,dq,?_,?_,zQ⟩,fun v hv=>?_⟩
   .unfold World.cL ae;simp only[Array.getElem?_push,if_true,List.append_assoc]
   .simp only[List.length_append,List.length_replicate,hlen,Nat.mul_one];omega
   .rcases List.mem_append.1 hv with h | h
    .exact own.cells v h
    .rw[List.mem_replicate]at h;rw[h.2];exact Qs
  .refine⟨rfl,rfl,rfl,by simp[World.cL,ae],fun i hi _=>?_⟩;simp only[World.cL,ae];exact jX _ _ _ hi
theorem Tw:∀{k j:Nat}{n:Int},j < k->(be k n).getD (k - 1 - j) 0=n / 256 ^ j % 256
 | 0,j,n,h=>by omega
 | k+1,0,n,_=>by
  rw[be,List.getD_eq_getElem?_getD,List.getElem?_append_right (by rw[aK];omega),aK];simp
 | k+1,j+1,n,h=>by
  rw[be,List.getD_eq_getElem?_getD,List.getElem?_append_left (by rw[aK];omega),<- List.getD_eq_getElem?_getD,show k+1 - 1 - (j+1)=k - 1 - j by omega,Tw (by omega),Int.ediv_ediv_of_nonneg (by decide),Int.pow_succ,Int.mul_comm]
theorem HM{l:List Int}{j:Nat}(h:j < l.length):l.take (j+1)=l.take j++[l.getD j 0]:=by
 rw[List.take_add_one,List.getD_eq_getElem?_getD,List.getElem?_eq_getElem h];rfl
theorem afi{j k:Nat}(h:j<=k):(256:Int) ^ j<=256 ^ k:=by
 obtain⟨d,rfl⟩:=Nat.le.dest h;rw[Int.pow_add];have h1:(0:Int) < 256 ^ d:=Int.pow_pos (by decide);have h2:(0:Int) < 256 ^ j:=Int.pow_pos (by decide)
 calc (256:Int) ^ j=256 ^ j * 1:=by rw[Int.mul_one]
  _<=_:=Int.mul_le_mul_of_nonneg_left (by omega) (by omega)
theorem Jq:∀(n:Nat){l:List Int},l.length=n->B8 l->∀i,(num l).toNat.testBit i=(decide (i < 8 * n) && (l.getD (n - 1 - i / 8) 0).toNat.testBit (i % 8))
 | 0,l,hl,_,i=>by
  have:l=[]:=List.length_eq_zero_iff.1 hl;subst this;rw[decide_eq_false (by omega)];simp[num]
 | n+1,l,hl,hb,i=>by
  obtain⟨m,x,rfl⟩ : ∃m x,l=m++[x]:=⟨l.dropLast,l.getLast (by intro e;subst e;simp at hl),(List.dropLast_concat_getLast _).symm⟩
  have hm:m.length=n:=by simpa using hl
  have bm:B8 m:=hb.sub fun y hy=>List.mem_append_left _ hy
  have bx:=hb x (by simp);have h0:=num_nonneg bm;have e:(num (m++[x])).toNat=2 ^ 8 * (num m).toNat+x.toNat:=by rw[Fv];omega
  rw[e,Nat.testBit_two_pow_mul_add _ (by omega)];by_cases h:i < 8
  .rw[if_pos h,decide_eq_true (by omega),Bool.true_and,show n+1 - 1 - i / 8=n by omega,show i % 8=i by omega];simp[List.getD_eq_getElem?_getD,hm]
  .rw[if_neg h,Jq n hm bm (i - 8)];by_cases h2:i < 8 * (n+1)
   .rw[decide_eq_true h2,decide_eq_true (by omega),Bool.true_and,Bool.true_and,show(i - 8) % 8=i % 8 by omega,show n - 1 - (i - 8) / 8=n+1 - 1 - i / 8 by omega];congr 2;simp only[List.getD_eq_getElem?_getD];rw[List.getElem?_append_left (by omega)]
   .rw[decide_eq_false h2,decide_eq_false (by omega)];rfl
theorem YD{b:List Int}(hl:b.length=16)(hb:B8 b):cw (num (b.take 8)) (num (b.drop 8))=co b:=by
 funext i;unfold cw co;by_cases h:i < 64
 .rw[if_pos h,Jq 8 (by simp;omega) (hb.take 8),decide_eq_true (by omega),decide_eq_true (by omega),Bool.true_and,Bool.true_and,show(63 - i) % 8=7 - i % 8 by omega,show 8 - 1 - (63 - i) / 8=i / 8 by omega];congr 2;simp only[List.getD_eq_getElem?_getD];rw[List.getElem?_take_of_lt (by omega)]
 .rw[if_neg h];by_cases h2:i < 128
  .rw[decide_eq_true h2,Bool.true_and,Bool.true_and,Jq 8 (by simp;omega) (hb.drop 8),decide_eq_true (by omega),Bool.true_and,show(127 - i) % 8=7 - i % 8 by omega];congr 2;simp only[List.getD_eq_getElem?_getD,List.getElem?_drop];congr 2;omega
  .rw[decide_eq_false h2];rfl
theorem PD{l:List Int}(hl:l.length=8)(hb:B8 l):lO (num l):=by
 have:=num_nonneg hb;have:=Tv hb;rw[hl]at this;constructor <;> omega
theorem acN{x y:Int}(hx:lO x)(hy:lO y):co (be 8 x++be 8 y)=cw x y:=by
 have:=YD (b:=be 8 x++be 8 y) (by simp[aK]) ((cv _ _).append (cv _ _))
 rw[<- this,List.take_append_of_le_length (by rw[aK];omega),List.take_of_length_le (by rw[aK];omega),List.drop_append_of_le_length (by rw[aK];omega),List.drop_eq_nil_of_le (by rw[aK];omega),List.nil_append,
  jQ 8 hx.1 (by have:=hx.2;omega),jQ 8 hy.1 (by have:=hy.2;omega)]
theorem aaz{x y:Int}(hx:lO x)(hy:lO y):af (cw x y)=be 8 x++be 8 y:=by
 rw[<- acN hx hy];exact aan (by simp[aK]) ((cv _ _).append (cv _ _))
end Go.V
namespace Go.Proofs.YtiigcapldngijaaGreat
open Go.V Go.V.Dk
theorem blt{w:Wd}{b:Nat}{o:Obj}(h:w.heap[b]? = some o):b < w.heap.size:=(Array.getElem?_eq_some_iff.1 h).1
structure tQ where
 b:Nat
 sn:Sl
 sf:Sl
 sw:Sl
def tQ.fp(d:tQ)(i:Nat):Prop:=i=d.b∨d.sn.aw=some i∨d.sf.aw=some i∨d.sw.aw=some i
abbrev tQ.p(d:tQ):Option Addr:=some ⟨d.b,0,none⟩
abbrev PE(d:tQ)(steps fail cut:Int)(down:Bool):List Value:=[d.sn.v,d.sf.v,d.sw.v,.int .u64 steps,.int .i64 fail,.int .i64 cut,.bool down]
structure bz(h:Array Obj)(d:tQ)(D:DS):Prop where
 aw:h[d.b]? = some (.cells (PE d D.steps D.fail D.cut D.down).toArray mR (0,0))
 now:aP h 0 bF 256 d.sn (D.now.flatMap kE)
 oM:aP h 0 bF 256 d.sf (D.oM.flatMap kE)
 waits:aP h 0 sP 257 d.sw (D.waits.flatMap Sb)
 nb:d.sn.aw≠some d.b/\d.sf.aw≠some d.b/\d.sw.aw≠some d.b
 nn:∀i,d.sn.aw=some i->d.sf.aw≠some i/\d.sw.aw≠some i
 nf:∀i,d.sf.aw=some i->d.sw.aw≠some i
 wf:WF D
section
variable {w w':Wd} {d:tQ} {D:DS}
theorem bz.lt(r:bz w.heap d D){i:Nat}(h:d.fp i):i < w.heap.size:=by
 rcases h with rfl | h | h | h
 .exact blt r.aw
 .exact(r.now.lt h).2
 .exact(r.oM.lt h).2
 .exact(r.waits.lt h).2
theorem bz.ext{S:Nat->Prop}(r:bz w.heap d D)(x:Ext S w w')(hS:∀i,d.fp i->¬ S i):bz w'.heap d D:=
 ⟨by rw[x.aw _ (blt r.aw) (hS _ (.inl rfl))];exact r.aw,r.now.ext x fun i hi=>hS i (.inr (.inl hi)),r.oM.ext x fun i hi=>hS i (.inr (.inr (.inl hi))),r.waits.ext x fun i hi=>hS i (.inr (.inr (.inr hi))),r.nb,r.nn,r.nf,r.wf⟩
theorem bz.no(r:bz w.heap d D)(x:Ext No w w'):bz w'.heap d D:=r.ext x fun _ _ h=>h
theorem bz.ln(r:bz w.heap d D):d.sn.len=D.now.length:=by have:=r.now.len;rw[cQ (qQ r.wf.rn)]at this;omega
theorem bz.lw(r:bz w.heap d D):d.sw.len=D.waits.length:=by have:=r.waits.len;rw[cQ (Ww r.wf.rw)]at this;omega
theorem bz.GZ{st fl ct:Int}{dn:Bool}(r:bz w.heap d D)(hw:mG w d.b (.cells (PE d st fl ct dn).toArray mR (0,0)) w')(wf:WF { D with steps:=st,fail:=fl,cut:=ct,down:=dn }) :
    bz w'.heap d { D with steps:=st,fail:=fl,cut:=ct,down:=dn }:=
  ⟨hw.get r.aw,r.now.ext hw.ext fun i hi h=>r.nb.1 (by rw[hi,h]),r.oM.ext hw.ext fun i hi h=>r.nb.2.1 (by rw[hi,h]),r.waits.ext hw.ext fun i hi h=>r.nb.2.2 (by rw[hi,h]),r.nb,r.nn,r.nf,wf⟩
theorem bz.Og{b:Bool}(r:bz w.heap d D)(h:D.down=b):bz w.heap d { D with down:=b }:=by subst h;exact r
theorem AD{i:Int}{K:Bool->Pw}(r:bz w.heap d D)(k:K (hasB D i) w):jq d.p i w K:=by
 apply DD;have hl:=r.ln;refine If.dec (fun h=>Nn.mk ⟨d.sn,Cell.af r.aw rfl,?_⟩) (fun h=>?_)
 .have:decide (i < ((d.sn.len:Int)))=hasB D i:=by unfold hasB;rw[hl];simp;omega
  rw[this];exact k
 .have:hasB D i=false:=by unfold hasB;simp;omega
  rw[this]at k;exact k
theorem tS{K:Int->Pw}(r:bz w.heap d D)(k:K (D.now.length:Int) w):gz d.p w K:=by
 apply yg;refine If.no (Nn.mk ⟨d.sn,Cell.af r.aw rfl,?_⟩);rw[r.ln];exact k
theorem qG{K:Int->Pw}(r:bz w.heap d D)(hs:0<=D.steps/\D.steps < 18446744073709551615)(k:∀w',bz w'.heap d (bZ D).2->Ext (·=d.b) w w'->w'.heap.size=w.heap.size->K (bZ D).1 w'):fL d.p w K:=by
 apply BA;have hf:=r.wf.fl;have hc:=r.wf.ct;refine⟨fun w2=>bz w2.heap d { D with steps:=D.steps,fail:=D.fail,cut:=D.cut,down:=D.down || decide (D.cut=0) }/\Ext (·=d.b) w w2/\w2.heap.size=w.heap.size,?_,?_⟩
 .refine Nn.mk ⟨_,Cell.af r.aw rfl,If.not (If.cases (fun hd=>?_) (fun hd=>Nn.mk ⟨_,Cell.af r.aw rfl,If.beq (fun h0=>Nn.mk (aH.mk r.aw (by simp) rfl fun w1 hw=>⟨?_,hw.ext,hw.size⟩)) (fun h0=>?_)⟩))⟩
  .rw[hd,Bool.true_or];exact⟨r.Og hd,Ext.refl _ _,rfl⟩
  .have e:(D.down || decide (D.cut=0))=true:=by simp[h0]
   rw[e];exact r.GZ hw ⟨r.wf.n,r.wf.lo,r.wf.hi,r.wf.rn,r.wf.rf,r.wf.rw,r.wf.fl,r.wf.ct⟩
  .have e:(D.down || decide (D.cut=0))=D.down:=by simp[h0]
   rw[e];exact⟨r,Ext.refl _ _,rfl⟩
 .rintro _ w2 ⟨r2,x2,z2⟩;refine Nn.mk ⟨_,Cell.af r2.aw rfl,If.cases (fun hd=>?_) (fun hd=>?_)⟩
  .have hd':D.down=true∨D.cut=0:=by simpa using hd
   have e:bZ D=(81,{ D with down:=true }):=by unfold bZ;rw[if_pos hd']
   rw[e]at k;refine k w2 ?_ x2 z2;exact r2.Og hd
  .have hd':¬ (D.down=true∨D.cut=0):=by simpa using hd
   have hdn:D.down=false:=by simp at hd;exact hd.1
   have wf4:∀{st fl:Int},0<=fl/\fl<=9223372036854775807->WF { D with steps:=st,fail:=fl,cut:=(if D.cut > 0 then D.cut - 1 else D.cut),down:=false }:=fun h=>⟨r.wf.n,r.wf.lo,r.wf.hi,r.wf.rn,r.wf.rf,r.wf.rw,h,by simp only;split <;> omega⟩
   refine⟨fun w4=>bz w4.heap d { D with steps:=D.steps,fail:=D.fail,cut:=(if D.cut > 0 then D.cut - 1 else D.cut),down:=false }/\Ext (·=d.b) w w4/\w4.heap.size=w.heap.size,?_,?_⟩
   .have r2:=r2.Og hd;refine Nn.mk ⟨_,Cell.af r2.aw rfl,If.dec (fun h=>Nn.mk ⟨_,Cell.af r2.aw rfl,Ar.i64 (by simp only;omega) (Nn.mk (aH.mk r2.aw (by simp) rfl fun w3 hw=>⟨?_,x2.trans hw.ext fun _ _ h=>h,by rw[hw.size,z2]⟩))⟩) (fun h=>⟨?_,x2,z2⟩)⟩
    .simp only at h;have w0:=wf4 (st:=D.steps) hf;rw[if_pos h]at w0 ⊢;exact r2.GZ hw w0
    .simp only at h;rw[if_neg h];exact r2
   .rintro _ w4 ⟨r4,x4,z4⟩;refine Nn.mk ⟨_,Cell.af r4.aw rfl,Ar.u64 (by simp only;omega) (Nn.mk (aH.mk r4.aw (by simp) rfl fun w5 WR=>?_))⟩;have r5:bz w5.heap d { D with steps:=D.steps+1,fail:=D.fail,cut:=(if D.cut > 0 then D.cut - 1 else D.cut),down:=false }:=r4.GZ WR (wf4 hf);have x5:=x4.trans WR.ext (S:=(·=d.b)) fun _ _ h=>h
    have z5:w5.heap.size=w.heap.size:=by rw[WR.size,z4]
    refine Nn.mk ⟨_,Cell.af r5.aw rfl,If.dec (fun h=>Nn.mk ⟨_,Cell.af r5.aw rfl,Ar.i64 (by simp only;omega) (Nn.mk (aH.mk r5.aw (by simp) rfl fun w6 hw6=>?_))⟩) (fun h=>?_)⟩
    .simp only at h;have r6:bz w6.heap d { D with steps:=D.steps+1,fail:=D.fail - 1,cut:=(if D.cut > 0 then D.cut - 1 else D.cut),down:=false }:=r5.GZ hw6 (wf4 (by omega));have x6:=x5.trans hw6.ext (S:=(·=d.b)) fun _ _ h=>h
     have e:bZ D=(if D.fail=1 then 80 else 0,{ D with steps:=D.steps+1,fail:=D.fail - 1,cut:=(if D.cut > 0 then D.cut - 1 else D.cut),down:=false }):=by
      unfold bZ;rw[if_neg hd',if_pos h,hdn]
     rw[e]at k;refine Nn.mk ⟨_,Cell.af r6.aw rfl,If.beq (fun h1=>?_) (fun h1=>?_)⟩
     .simp only at h1;rw[if_pos (by omega)]at k;exact k w6 r6 x6 (by rw[hw6.size,z5])
     .simp only at h1;rw[if_neg (by omega)]at k;exact k w6 r6 x6 (by rw[hw6.size,z5])
    .simp only at h
     have e:bZ D=(0,{ D with steps:=D.steps+1,fail:=D.fail,cut:=(if D.cut > 0 then D.cut - 1 else D.cut),down:=false }):=by
      unfold bZ;rw[if_neg hd',if_neg h,hdn]
     rw[e]at k;exact k w5 r5 x5 z5
end
end Go.Proofs.YtiigcapldngijaaGreat
namespace Go.Proofs.YtiigcapldngijaaGreat
open Go.V Go.V.Rn
abbrev te(h:Array Obj)(base:Nat)(s:Sl)(l:List fA):Prop:=aP h base HI 2 s (rc l)
abbrev Ko(h:Array Obj)(s:Sl)(l:List fA):Prop:=Rd h s 2 (rc l)
theorem Ko.len{h:Array Obj}{s:Sl}{l:List fA}(o:Ko h s l):s.len=l.length:=by have:=Rd.len o;rw[xV]at this;omega
theorem te.len{h:Array Obj}{base:Nat}{s:Sl}{l:List fA}(o:te h base s l):s.len=l.length:=Ko.len o.rd
theorem Ix.run{w:Wd}{s:Sl}{l:List fA}{i:Int}{K:Addr->Prop}(h:Ko w.heap s l)(h0:0<=i)(h1:i < (s.len:Int))
  (k:∀b o,s.aw=some b->Cell w ⟨b,o,none⟩ (.int .u32 (gr l i.toNat).1)->Cell w ((⟨b,o,none⟩ : Addr).add 1) (.int .u32 (gr l i.toNat).2)->K ⟨b,o,none⟩):Ix s.a s.len i 2 K:=by
 have hl:=h.len;have aN:i.toNat < l.length:=by omega
 have hr:=xV l;obtain⟨b,off,ha,hc⟩:=h.at_ (by intro e;rw[e]at hr;simp at hr;omega);obtain⟨g1,g2⟩:=Tp l i.toNat aN;refine⟨_,ha,h0,h1,?_⟩;rw[ay rfl];refine k _ _ (by simp[Sl.aw,ha]) (Cell.mk ?_) ?_
 .have:=hc (i.toNat * 2) (by omega);rw[List.getElem?_eq_getElem (by omega),Option.some.injEq]at g1;rw[g1]at this;exact this
 .rw[ay rfl];refine Cell.mk ?_;have:=hc (i.toNat * 2+1) (by omega);rw[List.getElem?_eq_getElem (by omega),Option.some.injEq]at g2;rw[g2,<- Nat.add_assoc]at this;exact this
theorem aj.YE{w:Wd}{b o:Nat}{v:Value}(h:Cell w ((⟨b,o,none⟩ : Addr).add 1) v):aj (Ext No w) ((⟨b,o,none⟩ : Addr).add 1) v:=by
 rw[ay rfl]at h ⊢;exact aj.cell h
theorem aj.acO{S:Nat->Prop}{w:Wd}{b o:Nat}{v:Value}(h:Cell w ((⟨b,o,none⟩ : Addr).add 1) v)(hb:¬ S b):aj (Ext S w) ((⟨b,o,none⟩ : Addr).add 1) v:=by
 rw[ay rfl]at h ⊢;exact aj.aF h hb
abbrev Tx(c d:Int):Obj:= .cells [.int .u32 c,.int .u32 d].toArray 192 (0,0)
theorem BR{w1:Wd}{c d:Int}{K:Nat->Pw}(k:∀b w3,w1.heap.size<=b->Ext No w1 w3->w3.heap[b]? = some (Tx c d)->K b w3) :
  au w1 (.cells [.int .u32 0,.int .u32 0].toArray 192) fun b w2=>List.length (α:=Value) [.int .u32 c,.int .u32 d]=2/\bO w2 (Addr.mk b 0 none) [.int .u32 c,.int .u32 d] fun w3=>K b w3:=by
 intro b w2 new;refine⟨rfl,_,_,_,new.get,rfl,by simp,.inr (.inr (Nat.le_refl _)),by simp[cB],fun w3 hw=>k b w3 (by rw[new.at_];exact Nat.le_refl _) ?_ ?_⟩
 .exact new.ext.trans hw.ext fun i hi e=>by subst e;have:=new.at_;omega
 .exact hw.get new.get
theorem ph{s:Sl}{w:Wd}{K:Bool->Pw}{L:List fA}(h:Ko w.heap s L)(hu:zV L)(hn:L.length<=9223372036854775807)(k:∀w',Ext No w w'->K (bw L) w'):gA s w K:=by
 apply IZ;have hl:=h.len;refine⟨fun m t w'=>∃j:Nat,t=j/\m=L.length - j/\j<=L.length/\bw L=kF (pe L j) (L.drop j)/\Ext No w w',⟨_,0,rfl,rfl,Nat.zero_le _,rfl,Ext.refl _ _⟩,?_⟩;rintro _ m t w1 ⟨j,rfl,rfl,hj,he,ext⟩;have hg:=hu.get j;refine If.dec (fun aN=>?_) (fun zQ=>?_)
 .have wE:j < L.length:=by omega
  rw[Lb wE,kF]at he
  refine Ix.run (h.no ext) (by omega) aN fun b o hb c1 c2=>⟨_,c1,_,c2,BR fun b w3 hbs DV w_=>⟨Ext No w3,(Ext.refl _ _).drew,?_⟩⟩
  rw[Int.toNat_natCast]at w_;have ext':=ext.no DV;refine⟨_,aj.cell (Cell.af w_ rfl),_,aj.cell (Cell.af w_ rfl),If.dec (fun h1=>?_) (fun h1=>?_)⟩
  .have:bw L=false:=by rw[he];simp;intro;omega
   rw[<- this];exact k _ ext'.drew
  .have next:∀(_:decide (pe L j < (gr L j).1)=true),∃m1,m1 < L.length - j/\∃j':Nat,(j:Int)+1=j'/\m1=L.length - j'/\j'<=L.length/\bw L=kF (pe L j') (L.drop j')/\Ext No w (ae w3):=fun hd=>
    ⟨_,by omega,j+1,by omega,rfl,by omega,by rw[he,hd,Wz];simp;intro;omega,ext'.drew⟩
   refine If.dec (fun h2=>?_) (fun h2=>Ar.i64 (by omega) (next ?_))
   .refine⟨_,aj.cell (Cell.af w_ rfl),Ar.i64 (by omega) (Ix.run (h.no ext') (by omega) (by omega) fun b o hb c1 c2=>⟨_,aj.YE c2,?_⟩)⟩
    have LQ:pe L j=(gr L ((j:Int) - 1).toNat).2:=by
     unfold pe;rw[if_neg (by omega),show((j:Int) - 1).toNat=j - 1 by omega]
    rw[<- LQ];refine If.dec (fun h3=>?_) (fun h3=>Ar.i64 (by omega) (next (by simp;omega)));have:bw L=false:=by rw[he];simp;intro _ h;omega
    rw[<- this];exact k _ ext'.drew
   .have:j=0:=by omega
    subst this;simp[pe];omega
 .have K0:L.drop j=[]:=List.drop_of_length_le (by omega);rw[K0]at he;have:=k w1 ext;rw[he]at this;exact this
end Go.Proofs.YtiigcapldngijaaGreat
namespace Go.Proofs.YtiigcapldngijaaGreat
open Go.V Go.V.Rn
theorem Oh{s:Sl}{p:Int}{w:Wd}{K:Int->Pw}{L:List fA}(h:Ko w.heap s L)(hn:L.length<=9223372036854775807)(k:∀w',Ext No w w'->K (placeN p L) w'):sJ s p w K:=by
 apply I9;have hl:=h.len;refine⟨fun m t w'=>∃j:Nat,t=j/\m=L.length - j/\j<=L.length/\placeN p L=j+placeN p (L.drop j)/\Ext No w w',⟨_,0,rfl,rfl,Nat.zero_le _,by simp,Ext.refl _ _⟩,?_⟩;rintro _ m t w1 ⟨j,rfl,rfl,hj,he,ext⟩;refine If.dec (fun aN=>?_) (fun zQ=>?_)
 .have wE:j < L.length:=by omega
  rw[Lb wE,placeN]at he
  refine Ix.run (h.no ext) (by omega) aN fun b o hb c1 c2=>⟨_,c1,_,c2,BR fun b w3 hbs DV w_=>?_⟩
  rw[Int.toNat_natCast]at w_;have ext':=ext.no DV;refine⟨_,Cell.af w_ rfl,If.dec (fun h1=>?_) (fun h1=>?_)⟩
  .rw[if_pos h1]at he;have:=k w3 ext';rw[he]at this;exact this
  .rw[if_neg h1]at he;exact Ar.i64 (by omega) ⟨_,by omega,j+1,by omega,rfl,by omega,by omega,ext'⟩
 .have K0:L.drop j=[]:=List.drop_of_length_le (by omega);rw[K0]at he;have:=k w1 ext;have e:placeN p L=s.len:=by simp only[placeN]at he;omega
  rw[e]at this;exact this
theorem LR{s:Sl}{p:Int}{w:Wd}{K:Bool->Int->Pw}{L:List fA}(h:Ko w.heap s L)(hu:zV L)(hn:L.length<=9223372036854775807)
  (k:∀w',Ext No w w'->K (bw L && hasB p L) (if bw L then 0 else 2) w'):sE s p w K:=by
 apply N7;have hl:=h.len;refine ph h hu hn fun w1 ext=>If.not (If.cases (fun hr=>?_) (fun hr=>?_))
 .rw[hr]at k;refine Oh (h.no ext) hn fun w2 QQ=>?_
  have ext':=ext.no QQ;have hp:=HF (p:=p) hr;refine If.dec (fun h1=>?_) (fun h1=>?_)
  .refine Ix.run (h.no ext') (by omega) h1 fun _ _ _ c1 c2=>⟨_,c1,?_⟩
   have:=k w2 ext';rw[hp,decide_eq_true (by omega:placeN p L < L.length)]at this;rw[Int.toNat_natCast];simpa using this
  .have:=k w2 ext';rw[hp,decide_eq_false (by omega:¬ placeN p L < L.length)]at this;simpa using this
 .have:=k w1 ext;rw[hr]at this;exact this
theorem HN{a b:Int}{w:Wd}{K:Sl->Pw}(k:∀s w',te w'.heap w.heap.size s (Sc a b)->Ext No w w'->K s w'):pW a b w K:=by
 apply LB;refine If.dec (fun h=>k _ _ ?_ (Ext.refl _ _)) (fun h=>fun b' w1 new=>k _ _ ?_ new.ext)
 .rw[Sc,if_pos h];exact aP.nil _ _ _ _
 .rw[Sc,if_neg h];exact aP.new (sz:=2) (n:=1) new rfl (NO [(a,b)])
end Go.Proofs.YtiigcapldngijaaGreat
namespace Go.Proofs.YtiigcapldngijaaGreat
open Go.V Go.V.Rn
theorem aH.run{w:Wd}{base:Nat}{s:Sl}{L:List fA}{i z:Int}{K:Pw}(o:te w.heap base s L)(h0:0<=i)(h1:i < (s.len:Int))
  (k:∀w',te w'.heap base s (xz L i.toNat z)->Ext (fun b=>s.aw=some b) w w'->w'.heap.size=w.heap.size->K w'):Ix s.a s.len i 2 fun a=>aH w (a.add 1) (.int .u32 z) K:=by
 have hl:=te.len o;have hrc:=xV L;have Gt:=Lc L i.toNat z (by omega);rcases o.is with⟨rfl,hn⟩ | ⟨b,rest,ha,hle,hb,hc,iv⟩
 .simp at h1;omega
 .refine⟨_,ha,h0,h1,?_⟩;rw[ay rfl];show aH w (Addr.add ⟨b,0+i.toNat * 2,none⟩ 1) _ _;rw[ay rfl,Nat.zero_add];refine aH.mk hb (by simp;omega) rfl fun w' hw=>k w' ⟨by rw[xV,HG,hl],.inr ⟨b,rest,ha,hle,?_,?_,iv⟩,NO _⟩ (hw.ext.mono fun j _ hj=>by subst hj;simp[Sl.aw,ha]) hw.size
  .rw[hw.get hb,List.set_append_left _ _ (by simp only;omega),Gt]
  .rw[Gt];simpa using hc
theorem LS{l:Sl}{r:fA}{w:Wd}{base:Nat}{K:Sl->Pw}{L:List fA}(o:te w.heap base l L)(dq:base<=w.heap.size)(hn:L.length<=8796093022208)
  (k:∀s w',te w'.heap base s (r_ L r)->Ext (fun b=>l.aw=some b) w w'->(s.aw=l.aw∨∃b,s.aw=some b/\w.heap.size<=b)->K s w'):sK l r.1 r.2 w K:=by
 apply N8;have hl:=te.len o;intro b w1 new;have aaA:=o.no new.ext;have Cz:∀i,l.aw=some i->i≠b:=fun i hi e=>by have:=(o.lt hi).2;have:=new.at_;omega
 refine⟨fun t w2=>t=decide (0 < L.length/\r.1<=rZ L)/\w2=ae w1,?_,?_⟩
 .refine⟨Ext No w1,(Ext.refl _ _).drew,If.dec (fun h=>?_) (fun h=>⟨?_,rfl⟩)⟩
  .refine⟨_,aj.cell (Cell.af new.get rfl),Ar.i64 (by omega) (Ix.run aaA.rd (by omega) (by omega) fun _ _ _ c1 c2=>⟨_,aj.YE c2,?_,rfl⟩)⟩;rw[decide_eq_decide,show((l.len:Int) - 1).toNat=L.length - 1 by omega];exact⟨fun h'=>⟨by omega,h'⟩,fun h'=>h'.2⟩
  .symm;rw[decide_eq_false_iff_not];intro h';omega
 .rintro _ t w2 ⟨rfl,rfl⟩;refine If.dec (fun h=>⟨fun _=>True,trivial,?_⟩) (fun h=>?_)
  .have aaB:r_ L r=xz L (L.length - 1) (CX (rZ L) r.2):=by unfold r_;rw[if_pos h]
   have e1:((l.len:Int) - 1).toNat=L.length - 1:=by omega
   have G0:te (ae (ae w1)).heap base l L:=aaA;have DW:(ae (ae w1)).heap[b]? = some (Tx r.1 r.2):=new.get
   have fin:∀z,z=CX (rZ L) r.2->Ix l.a l.len ((l.len:Int) - 1) 2 fun a=>aH (ae (ae w1)) (a.add 1) (.int .u32 z) fun w3=>True/\K l w3:=fun z hz=>
    aH.run G0 (by omega) (by omega) fun w3 WS DV _=>⟨trivial,k l w3 (by rw[aaB,<- hz,<- e1];exact WS) ((new.ext.az.trans DV.an.an fun _ _ h=>h)) (.inl rfl)⟩
   refine Ar.i64 (by omega) (Ar.i64 (by omega) (Ix.run G0.rd (by omega) (by omega) fun _ _ _ c1 c2=>⟨?_,?_⟩))
   .exact⟨_,c2,trivial,_,Cell.af DW rfl,trivial,Nm.mk (fin _ (by rw[e1];rfl))⟩
   .exact⟨_,Cell.af DW rfl,trivial,_,c2,trivial,Nm.mk (fin _ (by rw[e1];rfl))⟩
  .have aaB:r_ L r=L++[r]:=by unfold r_;rw[if_neg h]
   refine⟨_,Cell.af (w:=ae w1) new.get rfl,_,Cell.af (w:=ae w1) new.get rfl,fun b2 w3 Jr=>?_⟩;have:=new.size;have:=Jr.size;have G0:te (ae w1).heap base l L:=aaA;refine p_ (G0.no (w:=ae w1) Jr.ext) (by simp[ae] at *;omega) ((aP.new (sz:=2) (n:=1) Jr rfl (NO [r])).rd.src) (by simp only;omega) fun s' w4 BS _ ext' wI=>?_
   refine k s' w4 (by rw[aaB,te,To];exact BS) (((new.ext.drew.no Jr.ext).az (S:=fun b=>l.aw=some b)).trans ext' fun _ _ h=>h) ?_;rcases wI with h | ⟨b',h,zQ⟩
   .exact .inl h
   .exact .inr ⟨b',h,by simp[ae] at *;omega⟩
end Go.Proofs.YtiigcapldngijaaGreat
namespace Go.Proofs.YtiigcapldngijaaGreat
open Go.V Go.V.Rn
theorem Cut.tail{H:Array Obj}{s:Sl}{r:fA}{L:List fA}{K:Sl->Prop}(h:Ko H s (r::L))(k:∀s',Ko H s' L->K s'):Cut s 1 (((s.len:Nat):Int)) (((s.cap:Nat):Int)) 2 K:=by
 have hl:=h.len;have hc:=h.cap;simp only[List.length_cons]at hl;refine Cut.mk (by omega) (by omega) (by omega) (by omega) (k _ ?_);have:=Rd.cut h (lo:=1) (hi:=s.len) (mx:=s.cap) (by omega) (Nat.le_refl _) hc
 have e:(List.drop (1 * 2) (rc (r::L))).take ((s.len - 1) * 2)=rc L:=by
  rw[show List.drop (1 * 2) (rc (r::L))=rc L from rfl];exact List.take_of_length_le (by rw[xV];omega)
 rw[e]at this;have e1:((s.len:Int) - 1).toNat=s.len - 1:=by omega
 have e2:((s.cap:Int) - 1).toNat=s.cap - 1:=by omega
 have e3:((s.cap:Int)).toNat=s.cap:=by omega
 have e4:(1:Int).toNat=1:=rfl;rw[e1,e2,e3,e4];exact this
theorem vG{L:List fA}(h:0 < L.length):∃r l,L=r::l:=by cases L with
 | nil=>simp at h
 | cons r l=>exact⟨r,l,rfl⟩
theorem QR{a b:Sl}{w:Wd}{K:Sl->Int->Pw}{A B:List fA}(ha:Ko w.heap a A)(hb:Ko w.heap b B)(hua:zV A)(hub:zV B)(hna:A.length<=9223372036854775807)(hnb:B.length<=9223372036854775807)
  (k:∀s w',te w'.heap w.heap.size s (if bw A && bw B then f_ A B else[])->Ext No w w'->K s (if bw A && bw B then 0 else 2) w'):vc a b w K:=by
 apply LA;refine⟨fun w'=>(bw A && bw B)=true/\Ext No w w',?_,?_⟩
 .refine ph ha hua (by omega) fun w1 ext=>If.not (If.cases (fun hr=>?_) (fun hr=>?_))
  .refine ph (hb.no ext) hub (by omega) fun w2 QQ=>If.not (If.cases (fun Jo=>?_) (fun Jo=>?_))
   .exact⟨by rw[hr,Jo];rfl,ext.no QQ⟩
   .have:=k ⟨none,0,0⟩ w2;rw[hr,Jo]at this;exact this (aP.nil _ _ _ _) (ext.no QQ)
  .have:=k ⟨none,0,0⟩ w1;rw[hr]at this;exact this (aP.nil _ _ _ _) ext
 .rintro _ w3 ⟨hr,DV⟩;have hra:bw A=true/\bw B=true:=by simpa using hr
  have hn:A.length+B.length<=8796093022208:=by have:=wk hra.1 hua;have:=wk hra.2 hub;omega
  rw[hr]at k
  refine⟨fun m a1 b1 l w'=>∃A1 B1 O,Ko w.heap a1 A1/\Ko w.heap b1 B1/\te w'.heap w.heap.size l O/\eU O A1 B1=f_ A B/\m=A1.length+B1.length/\O.length+A1.length+B1.length<=A.length+B.length/\Ext No w w',
   ⟨_,A,B,[],ha,hb,aP.nil _ _ _ _,rfl,rfl,by simp,DV⟩,?_⟩
  rintro _ m a1 b1 l w4 ⟨A1,B1,O,ra,rb,own,he,rfl,hle,LU⟩;have la:=ra.len;have lb:=rb.len;refine⟨fun w5=>w5=w4/\(0 < A1.length∨0 < B1.length),?_,?_⟩
  .refine If.dec (fun h=>⟨rfl,by omega⟩) (fun h=>If.dec (fun h2=>⟨rfl,by omega⟩) (fun h2=>?_));have e1:A1=[]:=List.length_eq_zero_iff.1 (by omega);have e2:B1=[]:=List.length_eq_zero_iff.1 (by omega);subst e1 e2;rw[eU]at he;rw[he]at own;exact k l w4 own LU
  .rintro _ w5 ⟨rfl,ahm⟩;refine⟨fun t w6=>w6=ae w5/\t=(decide (B1.length=0) || (decide (0 < A1.length) && decide ((gr A1 0).1<=(gr B1 0).1))),?_,?_⟩
   .refine⟨Ext No w5,(Ext.refl _ _).drew,If.beq (fun h=>⟨rfl,?_⟩) (fun h=>If.dec (fun h2=>?_) (fun h2=>⟨rfl,?_⟩))⟩
    .rw[decide_eq_true (by omega:B1.length=0)];rfl
    .refine Ix.run (ra.no LU) (by omega) (by omega) fun _ _ _ c1 c2=>⟨_,aj.cell c1,Ix.run (rb.no LU) (by omega) (by omega) fun _ _ _ c1' c2'=>⟨_,aj.cell c1',rfl,?_⟩⟩
     rw[decide_eq_false (by omega:¬ B1.length=0),decide_eq_true (by omega:0 < A1.length)];rfl
    .rw[decide_eq_false (by omega:¬ B1.length=0),decide_eq_false (by omega:¬ 0 < A1.length)];rfl
   .rintro _ t w6 ⟨rfl,rfl⟩;have acP:te (ae (ae w5)).heap w.heap.size l O:=own;have Tz:Ext No w (ae (ae w5)):=LU.drew.drew
    have ne:∀{s:Sl}{i:Nat}{M:List fA},Ko w.heap s M->0 < M.length->s.aw=some i->¬ l.aw=some i:=fun {s i M} hm hp hi hl=>by
     have h1:=(own.lt hl).1;have h2:=hm.lt (by intro e;have:=xV M;rw[e]at this;simp at this;omega) hi;omega
    have rC:∀{w7:Wd},Ext (fun b=>l.aw=some b) (ae (ae w5)) w7->Ext No w w7:=fun e=>Tz.trans e fun i hi hb=>by have:=(own.lt hb).1;omega
    refine If.cases (fun h=>?_) (fun h=>?_)
    .have hA:0 < A1.length:=by
      simp only[Bool.or_eq_true,Bool.and_eq_true,decide_eq_true_eq]at h;omega
     obtain⟨r,A2,rfl⟩:=vG hA;refine⟨Ext (fun b=>l.aw=some b) (ae (ae w5)),Ext.refl _ _,Ix.run (w:=ae (ae w5)) (ra.no Tz) (by omega) (by simp at la;omega) fun b' o Is c1 c2=>⟨_,aj.aF c1 (ne ra hA Is),_,aj.acO c2 (ne ra hA Is),Cut.tail ra fun s' ra'=>?_⟩⟩
     refine LS (r:=r) acP (by have:=Tz.size;omega) (by simp at hle;omega) fun s2 w7 aaC TA _=>⟨TA,_,?_,A2,B1,r_ O r,ra',rb,aaC,?_,rfl,?_,rC TA⟩
     .simp
     .rw[<- he]
      cases B1 with
      | nil=>rw[eU]
      | cons q B2=>
       have:r.1<=q.1:=by simpa[Ed] using h
       rw[eU,if_pos this]
     .have:=@Ld O r;simp at hle;omega
    .have hB:0 < B1.length:=by
      simp only[Bool.or_eq_false_iff,decide_eq_false_iff_not]at h;omega
     obtain⟨r,B2,rfl⟩:=vG hB;refine⟨Ext (fun b=>l.aw=some b) (ae (ae w5)),Ext.refl _ _,Ix.run (w:=ae (ae w5)) (rb.no Tz) (by omega) (by simp at lb;omega) fun b' o Is c1 c2=>⟨_,aj.aF c1 (ne rb hB Is),_,aj.acO c2 (ne rb hB Is),Cut.tail rb fun s' rb'=>?_⟩⟩
     refine LS (r:=r) acP (by have:=Tz.size;omega) (by simp at hle;omega) fun s2 w7 aaC TA _=>⟨TA,_,?_,A1,B2,r_ O r,ra,rb',aaC,?_,rfl,?_,rC TA⟩
     .simp
     .rw[<- he]
      cases A1 with
      | nil=>rw[eU]
      | cons q A2=>
       have:¬ q.1<=r.1:=by simpa[Ed] using h
       rw[eU,if_neg this]
     .have:=@Ld O r;simp at hle;omega
end Go.Proofs.YtiigcapldngijaaGreat
namespace Go.Proofs.YtiigcapldngijaaGreat
open Go.V Go.V.Rn
theorem WT(a b:Int):(Sc a b).length<=1:=by unfold Sc;split <;> simp
theorem QT{l:Sl}{w:Wd}{K:Int->Sl->Int->Pw}{L:List fA}(h:Ko w.heap l L)(hu:zV L)(hn:L.length<=9223372036854775807)
    (k0:bw L=false->∀w',Ext No w w'->K 0 ⟨none,0,0⟩ 2 w') (k1:L=[]->∀w',Ext No w w'->K 0 ⟨none,0,0⟩ 9 w')
    (k2:∀r M,L=r::M->bw L=true->∀s w',te w'.heap w.heap.size s (cZ L)->Ext No w w'->K r.1 s 0 w'):vj l w K:=by
  apply LK;have hl:=h.len;refine ph h hu hn fun w1 ext=>If.not (If.cases (fun hr=>?_) (fun hr=>k0 hr w1 ext))
  refine If.beq (fun h0=>k1 (List.length_eq_zero_iff.1 (by omega)) w1 ext) (fun h0=>?_);obtain⟨r,M,rfl⟩:=vG (L:=L) (by omega);have hlen:=wk hr hu;have hrr:=hu.head
  have aN:r.1 < r.2:=by
    have:=qs hr r List.mem_cons_self;exact this.2
  refine Ix.run (h.no ext) (by omega) (by omega) fun b o hb c1 c2=>⟨_,c1,_,c2,BR fun b w3 hbs DV w_=>?_⟩
  have e0:gr (r::M) (0:Int).toNat=r:=rfl;rw[e0]at w_;have ext':=ext.no DV;refine⟨_,Cell.af w_ rfl,Ar.u32 (by omega) ⟨_,Cell.af w_ rfl,HN fun s4 w4 acQ LU=>?_⟩⟩;have l4:=te.len acQ;have Sk:=WT (r.1+1) r.2;have sz1:=ext.size;have sz3:=DV.size;have sz4:=LU.size;have afj:b < w3.heap.size:=(Array.getElem?_eq_some_iff.1 w_).1;refine p_ (aP.nil _ w.heap.size _ _) (by omega) acQ.rd.src (by simp only;omega) fun s5 w5 aaD afk afl afm=>?_
  simp only[List.nil_append]at aaD;have TB:Ext No w4 w5:=afl.mono fun i _ hi=>by simp[Sl.aw]at hi
  have sz5:=TB.size
  have du:¬ s5.aw=some b:=by
    intro he;rcases afm with h' | ⟨b',h',zQ⟩
    · rw[he]at h';simp[Sl.aw]at h'
    · rw[he]at h';cases h';omega
  have WU:w5.heap[b]? = some (Tx r.1 r.2):=by
    rw[TB.aw b (by omega) id,LU.aw b afj id];exact w_
  have YF:Ext No w w5:=(ext'.no LU).no TB;refine⟨Ext (fun i=>s5.aw=some i) w5,(Ext.refl _ _).drew,_,aj.aF (Cell.af WU rfl) du,?_⟩;have rd5:Ko (ae w5).heap l (r::M):=h.no YF.drew;have acR:aP (ae w5).heap w.heap.size HI 2 s5 (rc (Sc (r.1+1) r.2)):=aaD
  refine Cut.tail rd5 fun s' rd' => p_ acR (by have : (ae w5).heap.size = w5.heap.size := rfl
                                               omega) rd'.src (by have:=rd'.len;simp only[List.length_cons]at hlen hl;simp only at afk;omega) fun s6 w6 afn _ acS _=>⟨acS.an,?_⟩
  refine k2 r M rfl hr s6 w6 (by rw[te,cZ,To];exact afn) (YF.trans acS.an fun i hi hb=>?_);have:=(aaD.lt hb).1;omega
theorem mk_one{p:Int}(h0:0<=p):Sc p (p+1)=[(p,p+1)]/\bw [(p,p+1)]=true:=by
 refine⟨by unfold Sc;rw[if_neg (by omega)],?_⟩;simp only[bw,kF,Bool.and_true,Bool.and_eq_true,decide_eq_true_eq];omega
theorem QU{l:Sl}{p:Int}{w:Wd}{K:Sl->Int->Pw}{L:List fA}(h:Ko w.heap l L)(hu:zV L)(hn:L.length<=9223372036854775807)(hp:0<=p/\p<=4294967295)
  (k0:bw L=false->∀w',Ext No w w'->K ⟨none,0,0⟩ 2 w') (k1:bw L=true->p=4294967295->∀w',Ext No w w'->K ⟨none,0,0⟩ 2 w')
  (k2:bw L=true->p≠4294967295->hasB p L=true->∀w',Ext No w w'->K ⟨none,0,0⟩ 8 w')
  (k3:bw L=true->p≠4294967295->hasB p L=false->∀s w',te w'.heap w.heap.size s (f_ L [(p,p+1)])->Ext No w w'->K s 0 w'):uX l p w K:=by
 apply LC;refine LR h hu hn fun w1 ext=>?_
 cases hr:bw L with
 | false=>exact If.bne (fun _=>k0 hr w1 ext) (fun h=>by simp at h)
 | true=>
  refine If.bne (fun h=>by simp at h) (fun _=>If.beq (fun e=>k1 hr e w1 ext) (fun e=>If.cases (fun hh=>k2 hr e (by simpa using hh) w1 ext) (fun hh=>?_)));have hh':hasB p L=false:=by simpa using hh
  have hlen:=wk hr hu;obtain⟨m1,m2⟩:=mk_one (p:=p) hp.1;refine Ar.u32 (by omega) (HN fun s2 w2 G0 QQ=>?_);rw[m1]at G0;have ext':=ext.no QQ;refine QR (h.no ext') G0.rd hu (fun x hx=>by simp at hx;subst hx;exact⟨by omega,by omega,by simp only;omega,by simp only;omega⟩) hn (by simp) fun s3 w3 WS DV=>?_
  rw[hr,m2]at WS ⊢;exact k3 hr e hh' s3 w3 (WS.mono ext'.size) (ext'.no DV)
def y_(_vv _ev:Option Addr)(w:Wd)(K:Pw):Prop:=SJ .nilIface/\If (oH .nilIface) (K w) (∃a,Sem.run pz (Instr.typeAssert (.nilIface) 20 160 true) w = .ok (.tuple #[]) a/\False)
def ze:tZ:=(.block (qz (.cond n0 (qz .cut))))
theorem zf{vv:Option Addr}{ev:Option Addr}{w:Wd}{K:Pw}(h:y_ vv ev w K):xS pz 37 #[.pointer vv,.pointer ev] K w:=
 mkN (pk:=PK) (ann:=ze) (args:=[.pointer vv,.pointer ev]) (id:=0) (t:=9) (ops:=aag (aeP (Tryz.f37.body.getD .skip))) (rest:=aeQ (Tryz.f37.body.getD .skip)) Tryz.func37 (by kernel_rfl) (by kernel_rfl) (fun _ _ _ _=>by kernel_rfl) (by kernel_rfl) (of_decide_eq_true (by kernel_rfl)) (by kernel_rfl) h
def vH(vv:Option Addr)(again:Bool)(w:Wd)(K:Int->Pw):Prop:=au w (.cells [.int .i64 0].toArray 25) fun W w7=>oN  w7 fun s1 x2=>au x2 (.map #[] 0) fun r6 x6=>Nn vv fun n7=>aH x6 (n7.add 7) (.bool false) fun x8=>Nn vv fun n8=>aH x8 (n8.add 8) (.pointer s1) fun y0=>Nn vv fun o9=>aH y0 (o9.add 9) (.pointer none) fun y2=>Nn vv fun p9=>aH y2 (p9.add 17) (.map (some r6)) fun e3=>∃U:Pw,(If again (Nn vv fun q7=>∃h2:Option Addr,Cell e3 (q7.add 4) (.pointer h2)/\cE h2 e3 fun u9 z0=>aV u9 z0 fun z1=>U z1) (U e3))/\∀(_:Env)(k3:Wd),U k3->∃C:Nat->Int->Pw,(∃k,C k 0 k3)/\∀(_:Env)(c3:Nat)(u:Int)(z:Wd),C c3 u z->If (decide (u < 2)) (Nn vv fun r1=>∃i1:Option Addr,Cell z (r1.add 4) (.pointer i1)/\cF i1 u z fun s9 t8 w8=>bh s9 t8 w8 fun v8 w9=>mO v8 w9 fun _ _ c6 _ u8 d3=>∃T:Bool->Pw,(If (u8 == 0) (Nn vv fun r2=>∃j1:Option Addr,Cell d3 (r2.add 8) (.pointer j1)/\dh j1 0 d3 fun w1 x0=>bS w1 c6 x0 fun w2 x1=>T (!w2) x1) (T false d3))/\∀(_:Env)(h1:Bool)(M:Wd),T h1 M->If h1 (∃a:Pw,a (ae M)/\Nn vv fun r3=>∃j8:Option Addr,aj a (r3.add 8) (.pointer j8)/\Nn vv fun r4=>∃L:Sl,aj a (r4.add 3) L.u/\pP L c6 (ae M) fun t2 u1 k4=>a k4/\bh t2 u1 k4 fun w3 k5=>a k5/\eI j8 0 c6 w3 k5 fun w4 k6=>a k6/\aV w4 k6 fun k7=>a k7/\Ar .i64 (u+1) fun z2=>∃r,r < c3/\C r z2 k7) (Ar .i64 (u+1) fun z3=>∃r,r < c3/\C r z3 M)) (∃a:Pw,a (ae z)/\Nn vv fun r5=>∃j9:Option Addr,aj a (r5.add 4) (.pointer j9)/\Nn vv fun n9=>∃k0:Option Addr,aj a (n9.add 5) (.pointer k0)/\Nn vv fun o0=>∃k1:Option Addr,aj a (o0.add 8) (.pointer k1)/\mA j9 k0 k1 (ae z) fun s2 s3 s4 s5 s6 s7 s8 u2 k8=>a k8/\eE s2 s3 s4 s5 s6 s7 s8 u2 k8 fun g3 g4 g5 g6 g7 g8 g9 k9=>a k9/\Nn vv fun o1=>bQ k9 (o1.add 10) 7 (xW g3 g4 g5 g6 g7 g8 g9) fun d4=>∃S:Pw,(Nn vv fun o2=>∃k2:Int,Cell d4 (o2.add 10) (.int .u64 k2)/\If (k2 == 0) (Nn vv fun o3=>aH d4 ((o3.add 10).add 5) (.int .u16 1) fun x3=>S x3) (S d4))/\∀(_:Env)(d5:Wd),S d5->Nn vv fun o4=>∃h3:Option Addr,Cell d5 (o4.add 8) (.pointer h3)/\dh h3 0 d5 fun c8 x4=>∃B:Nat->Int->Pw,(∃k,B k 0 x4)/\∀(_:Env)(c4:Nat)(v:Int)(l:Wd),B c4 v l->If (decide (v < ((c8.len:Int)))) (Ix c8.a c8.len v 1 fun o5=>∃d0:Int,Cell l o5 (.int .u16 d0)/\Nn vv fun o6=>∃h4:Int,Cell l ((o6.add 10).add 5) (.int .u16 h4)/\If (d0 != h4) (Nn vv fun o7=>∃h5:Option Addr,Cell l (o7.add 8) (.pointer h5)/\Bq h5 0 d0 l fun w5 x5=>aV w5 x5 fun x7=>Ar .i64 (v+1) fun z4=>∃s,s < c4/\B s z4 x7) (Ar .i64 (v+1) fun z5=>∃s,s < c4/\B s z5 l)) (∃R:Pw,(Nn vv fun o8=>∃h6:Option Addr,Cell l (o8.add 8) (.pointer h6)/\dh h6 0 l fun w6 d6=>If (((w6.len:Int)) == 0) (∃a:Pw,a (ae d6)/\Nn vv fun p0=>∃h7:Option Addr,aj a (p0.add 8) (.pointer h7)/\Nn vv fun p1=>∃h8:Int,aj a ((p1.add 10).add 5) (.int .u16 h8)/\Nn vv fun p2=>∃J:Sl,aj a (p2.add 3) J.u/\Nn vv fun p3=>∃h9:Int,aj a ((p3.add 10).add 5) (.int .u16 h9)/\pP J h9 (ae d6) fun t3 u3 l0=>a l0/\bh t3 u3 l0 fun v0 l1=>a l1/\eI h7 0 h8 v0 l1 fun v1 l2=>a l2/\aV v1 l2 fun l3=>a l3/\R l3) (R d6))/\∀(_:Env)(d7:Wd),R d7->∃a:Pw,a (ae d7)/\Nn vv fun p4=>∃i0:Option Addr,aj a (p4.add 4) (.pointer i0)/\Nn vv fun p5=>∃i2:Option Addr,aj a (p5.add 8) (.pointer i2)/\Nn vv fun p6=>∃i3:Option Addr,aj a (p6.add 6) (.pointer i3)/\uR i0 i2 i3 ⟨none,0,0⟩ (ae d7) fun t4 u4 l4=>a l4/\fu t4 u4 l4 fun v2 l5=>a l5/\Nn vv fun p7=>aH l5 (p7.add 9) (.pointer v2) fun l6=>∃a:Pw,a (ae l6)/\Nn vv fun p8=>∃i4:Option Addr,aj a (p8.add 9) (.pointer i4)/\Nn vv fun D=>qI (aj a) ((D.add 10).add 1) fun e5 e6 e7 f4=>jd (.iface 41 (.pointer i4)) 0 e5 e6 e7 f4 (ae l6) fun t5 u5 l7=>a l7/\dR t5 u5 l7 fun v3 d8=>a d8/\∃a:Pw,a (ae d8)/\Nn vv fun q0=>∃i5:Option Addr,aj a (q0.add 9) (.pointer i5)/\Nn vv fun E=>qI (aj a) ((E.add 10).add 1) fun f5 f6 f7 f8=>sh (.iface 41 (.pointer i5)) f5 f6 f7 f8 (ae d8) fun t6 u6 l8=>a l8/\gX t6 u6 l8 fun H d9=>a d9/\∃e4:Pw,(Nn vv fun q1=>∃i6:Int,Cell d9 ((q1.add 10).add 6) (.int .u32 i6)/\Ar .i64 i6 fun z6=>If (((H.len:Int)) != z6) (False) (e4 d9))/\∀(_:Env)(e0:Wd),e4 e0->∃a:Pw,a (ae e0)/\Nn vv fun q2=>∃i7:Option Addr,aj a (q2.add 8) (.pointer i7)/\Nn vv fun q3=>∃i8:Int,aj a ((q3.add 10).add 5) (.int .u16 i8)/\bV i7 0 i8 (ae e0) fun t7 u7 l9=>a l9/\bh t7 u7 l9 fun v4 m0=>a m0/\∃A:Nat->Sl->Int->Pw,(∃k,A k v3 0 m0)/\∀(_:Env)(c5:Nat)(m:Sl)(x:Int)(c:Wd),A c5 m x c->If (decide (x < ((H.len:Int)))) (Ix H.a H.len x 9 fun e=>nM (Cell c) e fun c1 c2 f Y Z a0 a1 a2 g=>au c (.cells (Bm 0 0 0 0 0 0 0).toArray 100) fun b x9=>bQ x9 (A0 b) 9 (IE c1 c2 f Y Z a0 a1 a2 g) fun m1=>∃p:Sl,Cell m1 ((A0 b).add 8) p.u/\∃Q:Nat->Int->Pw,(∃k,Q k 0 m1)/\∀(_:Env)(f9:Nat)(I:Int)(n:Wd),Q f9 I n->If (decide (I < ((p.len:Int)))) (Ix p.a p.len I 3 fun V=>Lj (Cell n) V fun a3 a4 h=>au n (.cells (WD 0 0).toArray 146) fun q y1=>bQ y1 (A0 q) 3 (HH a3 a4 h) fun m2=>∃a:Pw,a (ae m2)/\Nn vv fun q4=>∃i9:Option Addr,aj a (q4.add 8) (.pointer i9)/\∃j0:Int,aj a (A0 b) (.int .u32 j0)/\∃j2:Int,aj a (A0 q) (.int .u16 j2)/\∃j3:Int,aj a (A0 b) (.int .u32 j3)/\Lj (aj a) (A0 q) fun e8 e9 G=>qv v4 j3 e8 e9 G (ae m2) fun t0 t9 m3=>a m3/\bh t0 t9 m3 fun v5 m4=>a m4/\eI i9 j0 j2 v5 m4 fun v6 m5=>a m5/\aV v6 m5 fun m6=>a m6/\Ar .i64 (I+1) fun z7=>∃g1,g1 < f9/\Q g1 z7 m6) (∃a:Pw,a (ae n)/\Nn vv fun q5=>∃j4:Option Addr,aj a (q5.add 9) (.pointer j4)/\∃j5:Int,aj a (A0 b) (.int .u32 j5)/\qI (aj a) ((A0 b).add 3) fun f0 f1 f2 f3=>jd (.iface 41 (.pointer j4)) j5 f0 f1 f2 f3 (ae n) fun t1 u0 m7=>a m7/\dR t1 u0 m7 fun c7 m8=>a m8/\bj pz 55 55 m c7.u (fun h0 N=>a N/\∃a:Pw,a (ae N)/\Nn vv fun q6=>∃d1:Option Nat,aj a (q6.add 17) (.map d1)/\∃d2:Int,aj a (A0 b) (.int .u32 d2)/\nM (aj a) (A0 b) fun a5 a6 i a7 a8 a9 b0 b1 j=>(mf  (ae N) fun v7 m9=>a m9/\au m9 (.map #[] 0) fun r7 n1=>a n1/\au n1 (.cells [.int .u32 a5,.int .i64 a6, i.u,.int .u32 a7,.int .u64 a8,.int .u16 a9,.int .u8 b0,.int .i64 b1, j.u,.pointer v7,.map (some r7),.int .u64 0].toArray 104) fun r8 n2=>a n2/\∃e1,Sem.run pz (Instr.mapUpdate 49 (.map d1) (.int .u32 d2) (.pointer (some (A0 r8)))) n2 = .ok () e1/\a e1/\Ar .i64 (x+1) fun z8=>∃t,t < c5/\A t h0 z8 e1)/\(au (ae N) (.map #[] 0) fun r9 n3=>a n3/\mf  n3 fun v9 n4=>a n4/\au n4 (.cells [.int .u32 a5,.int .i64 a6, i.u,.int .u32 a7,.int .u64 a8,.int .u16 a9,.int .u8 b0,.int .i64 b1, j.u,.pointer v9,.map (some r9),.int .u64 0].toArray 104) fun s0 n5=>a n5/\∃e2,Sem.run pz (Instr.mapUpdate 49 (.map d1) (.int .u32 d2) (.pointer (some (A0 s0)))) n5 = .ok () e2/\a e2/\Ar .i64 (x+1) fun z9=>∃t,t < c5/\A t h0 z9 e2)) m8)) (xO c 44 (pN 0 0 0) 24 ((m.len:Int)) ((m.len:Int)) fun c9 y3=>∃P:Nat->Int->Pw,(∃k,P k 0 y3)/\∀(_:Env)(g0:Nat)(y:Int)(d:Wd),P g0 y d->If (decide (y < ((m.len:Int)))) (Ix m.a m.len y 6 fun o=>IF (Cell d) o fun b2 b3 b4 b5 b6 b7=>au d (.cells (Gf 0 0 0 0 0 0).toArray 89) fun F y4=>bQ y4 (A0 F) 6 (Gf b2 b3 b4 b5 b6 b7) fun O=>wJ (Cell O) ((A0 F).add 3) fun b8 b9 c0=>Ix c9.a c9.len y 3 fun q8=>bQ O q8 3 (pN b8 b9 c0) fun y5=>Ar .i64 (y+1) fun A1=>∃g2,g2 < g0/\P g2 A1 y5) (Nn vv fun q9=>∃j6:Option Addr,Cell d (q9.add 9) (.pointer j6)/\fG j6 c9 d fun w0 y6=>aV w0 y6 fun y7=>Nn vv fun r0=>aH y7 (r0.add 7) (.bool true) fun y8=>aH y8 (A0 W) (.int .i64 0) fun y9=>xS pz 37 #[.pointer vv,.pointer (some (A0 W))] (fun n6=>∃j7:Int,Cell n6 (A0 W) (.int .i64 j7)/\K j7 n6) y9))))
def vI:Dp:=(.next n0 (.next n0 (.We (.last (.join [] 34909494181888 (qz (.cond n0 n0)) (.seq (qz (.block (.loop [(45,.int .i64)] 19807040628566049214013900768 (qz (.seq (.cond n0 n0) (.seq (.block (qz (qz (.join [(75,.bool)] 75539416981840613867520 n0 (.cond (.draw (bA [0,1,2,3,4,5,6,7,8,9,10] (.one 11 (bA [12,13] (.one 14 (.one 15 (.one 16 .fin))))))) n0))))) n0)))))) (.seq (.draw (bA [0,1,2,3,4,5,6,7,8,9,10,11,12] (.one 13 (bA [14,15] (.one 16 (bA [17,18] (.last 19))))))) (.join [] 10623439372562257327973395489584316416 (qz (.cond n0 n0)) (.seq (qz (.block (.loop [(129,.int .i64)] 356811242611756128387644565613158920559267840 (qz (.seq (.cond n0 n0) (.seq (.block (qz (qz (.cond n0 n0)))) n0)))))) (.join [] 1532495540509076935181857056885737691256365338087915520 (qz (.cond (.draw (bA [0,1,2,3,4,5,6,7,8,9,10,11,12,13,14,15,16,17,18] (.one 19 (bA [20,21] (.one 22 (.one 23 (.one 24 .fin))))))) n0)) (.seq (.draw (bA [0,1,2,3,4,5,6,7,8,9,10,11,12] (.one 13 (bA [14,15] (.one 16 (bA [17,18] (.last 19))))))) (.seq (.draw (bA [0,1,2,3,4,5,6,7,8,9] (.one 10 (bA [11,12] (.one 13 (.take 14 .fin)))))) (.seq (.draw (bA [0,1,2,3,4,5,6,7,8,9] (.one 10 (bA [11,12] (.one 13 (.take 14 .fin)))))) (.join [] 441496086621258877277467039065033471911481877063524414950552721441161216 (qz (.cond .cut n0)) (.seq (.draw (bA [0,1,2,3,4,5,6,7,8] (.one 9 (bA [10,11] (.one 12 (.take 13 .fin)))))) (.seq (qz (.block (.loop [(13,.sl),(253,.int .i64)] 2085924839766513737864877230266678808970330509027930238992659736933815946025458786142658371584 (qz (.seq (.cond n0 n0) (.seq (.block (qz (.seq (qz (.block (.loop [(260,.int .i64)] 15541349285132404770296568477452391114132729060097361519765474646589890155031594270720 (qz (.seq (.cond n0 n0) (.seq (.block (qz (.draw (bA [0,1,2,3,4,5,6,7,8,9,10,11] (.one 12 (bA [13,14] (.one 15 (.one 16 (.one 17 .fin))))))))) n0)))))) (.seq (.draw (bA [0,1,2,3,4,5,6,7,8,9] (.one 10 (bA [11,12] (.one 13 (.one 14 (.take 15 .fin))))))) (.draw (bA [0,1,2,3,4,5,6] (.two 7 (.one 8 (.take 9 (.one 10 (.one 11 .fin)))) 8 (.one 7 (.take 9 (.one 10 (.one 11 .fin))))))))))) n0)))))) (qz (.seq (qz (.block (.loop [(315,.int .i64)] 136636420704065716833206544766533536830991754914502131877549817850377618083530350184281356005015552 (qz (.seq (.cond n0 n0) (.seq (.block (qz n0)) n0)))))) (qz (qz (qz n0)))))))))))))))))))))
theorem mV{vv:Option Addr}{again:Bool}{w:Wd}{K:Int->Pw}(h:vH vv again w K):dv vv again w K:=
 mkD (pk:=PK) (s:=vI) (args:=[.pointer vv,.bool again]) (tys:=[.one (.int .i64)]) (K:=K) (w:=w) Tryz.func28 (by kernel_rfl) (by kernel_rfl) (by kernel_rfl) h
def zg(c0 c1:Addr)(w:Wd)(K:Pw):Prop:=∃b:Int,Cell w c0 (.int .i64 b)/\If (b != 0) (∃a:Int,Cell w c0 (.int .i64 a)/\bQ w c1 7 (EO a 0 0 0) fun c=>K c) (K w)
def zh:tZ:=(qz (.cond n0 n0))
theorem pj{c0:Addr}{c1:Addr}{w:Wd}{K:Pw}(h:zg c0 c1 w K):xS pz 45 #[.pointer (some c0),.pointer (some c1)] K w:=
 mkE (pk:=PK) (ann:=zh) (args:=[.pointer (some c0),.pointer (some c1)]) Tryz.func45 (by kernel_rfl) (by kernel_rfl) h
def rD(c0 c1:Addr)(w:Wd)(K:Pw):Prop:=∃a:Bool,Cell w c0 (.bool a)/\If (!a) (∃b:Option Addr,Cell w c1 (.pointer b)/\Nn b fun d=>∃c:Option Addr,Cell w (d.add 9) (.pointer c)/\eZ c w fun e f=>If (!e) (False) (K f)) (K w)
def rE:tZ:=(qz (.cond .cut n0))
theorem ka{c0:Addr}{c1:Addr}{w:Wd}{K:Pw}(h:rD c0 c1 w K):xS pz 234 #[.pointer (some c0),.pointer (some c1)] K w:=
 mkE (pk:=PK) (ann:=rE) (args:=[.pointer (some c0),.pointer (some c1)]) Tryz.func234 (by kernel_rfl) (by kernel_rfl) h
def ur(vv:Option Addr)(build qS:Value)(w:Wd)(K:Pw):Prop:=au w (.cells [.pointer vv].toArray 24) fun f T=>∃a:Pw,a (ae T)/\∃I:Option Addr,aj a (A0 f) (.pointer I)/\Nn I fun a0=>∃M:Option Addr,aj a (a0.add 9) (.pointer M)/\∃N:Option Addr,aj a (A0 f) (.pointer N)/\Nn N fun a1=>∃O:Option Addr,aj a (a1.add 5) (.pointer O)/\oQ M O (ae T) fun a5 a6 W=>a W/\iM a5 a6 W fun s Y=>a Y/\au Y (.cells [.bool false].toArray 4) fun g b2=>aH b2 (A0 g) (.bool false) fun b3=>aC pz true build [.int .u64 s] [.agg [.one (.int .u32),.one (.int .u64),.one (.int .u16),.one (.int .u8),.one (.int .u16),.one (.int .i64)]] (fun C D E F G H b4=>au b4 (.cells (Lg 0 0 0 0 0 0).toArray 232) fun d b5=>bQ b5 (A0 d) 6 (Lg C D E F G H) fun b6=>aH b6 (A0 g) (.bool true) fun e=>WH (Cell e) (A0 d) fun h i q r t P=>Ar .u32 P fun Z=>au e (.cells (xW 0 0 0 0 0 0 0).toArray 48) fun b a8=>bQ a8 (A0 b) 7 (xW s h i q r t Z) fun U=>∃a:Pw,a (ae U)/\∃Q:Option Addr,aj a (A0 f) (.pointer Q)/\Nn Q fun a2=>∃R:Option Addr,aj a (a2.add 9) (.pointer R)/\∃S:Option Addr,aj a (A0 f) (.pointer S)/\Nn S fun a3=>∃J:Option Addr,aj a (a3.add 5) (.pointer J)/\IG (aj a) (A0 b) fun v x y z A B u=>gQ R J v x y z A B u (ae U) fun a7 V=>a V/\aV a7 V fun c=>a c/\∃L:Option Addr,Cell c (A0 f) (.pointer L)/\IG (Cell c) (A0 b) fun j k l m n o p=>Nn L fun a4=>bQ c (a4.add 10) 7 (xW j k l m n o p) fun a9=>aC pz true qS [] [] (fun b0=>xS pz 234 #[.pointer (some (A0 g)),.pointer (some (A0 f))] (fun b1=>K b1) b0) bJ a9) bJ b3
def uu:Dp:=(.next n0 (.next (.draw (bA [0,1,2,3,4,5,6,7] (.one 8 (bA [9,10] (.one 11 (.take 12 .fin)))))) (.next n0 (.We (.last (qz (qz (qz (.seq (.draw (bA [0,1,2,3,4,5,6,7,8] (.one 9 (.one 10 .fin)))) (qz n0))))))))))
theorem lS{vv:Option Addr}{build qS:Value}{w:Wd}{K:Pw}(h:ur vv build qS w K):bC vv build qS w K:=
 mkD (pk:=PK) (s:=uu) (args:=[.pointer vv,build,qS]) (tys:=[]) (K:=K) (w:=w) Tryz.func130 (by kernel_rfl) (by kernel_rfl) (by kernel_rfl) h
def BT(vv:Option Addr)(c0 c1:Int)(c2:Sl)(c3 c4:Int)(c5 c6:Int)(c7 c8:Int)(c9 c10:Sl)(c11 c12:Sl)(c13:Bool)(w:Wd)(K:Int->Int->Int->Sl->Sl->Int->Sl->Pw):Prop:=au w (.cells (Lf c0 c1 c2 c3 c4 c5 c6 c7 c8 c9 c10 c11 c12 c13).toArray 67) fun c a0=>au a0 (.cells (EO 0 0 0 0).toArray 61) fun a a3=>aE vv a3 fun Z u=>If Z (bQ u (A0 a) 7 (EO 1 0 0 0) fun e=>Bn (Cell e) (A0 a) fun v x E q r L s=>K v x E q r L s e) (Nn vv fun Y=>∃U:Bool,Cell u (Y.add 7) (.bool U)/\If (!U) (False) (au u (.cells [.int .i64 0].toArray 25) fun t a4=>aH a4 (A0 t) (.int .i64 0) fun W=>∃V:Int,Cell W (A0 c) (.int .i64 V)/\kG vv V W fun S a5=>∃T:Bool,∃b,Sem.run pz (xP .eql 62 (.tmp 24) (.const .nilFunc) (S) (.nilFunc)) a5 = .ok (.bool T) b/\If T (False) (Tq (Cell b) (A0 c) fun M N j y z A B C D f g h i F=>aC pz true S [.agg ((Lf M N j y z A B C D f g h i F)).toArray] [.agg [.one (.int .i64),.one (.int .u64),.one (.int .u64),.one (.sl),.one (.sl),.one (.int .i64),.one (.sl)]] (fun O P Q k l R m a6=>bQ a6 (A0 a) 7 (WB O P Q k l R m) fun a1=>xS pz 37 #[.pointer vv,.pointer (some (A0 t))] (fun a2=>xS pz 45 #[.pointer (some (A0 t)),.pointer (some (A0 a))] (fun d=>Bn (Cell d) (A0 a) fun G H I n o J p=>K G H I n o J p d) a2) a1) bJ b)))
def BU:Dp:=(.next n0 (.next (.block (qz (.cond (qz n0) (qz (.cond .cut n0))))) (.next n0 (.We (.We (.last (qz (.seq (qz (.cond .cut n0)) (qz n0)))))))))
theorem mo{vv:Option Addr}{c0 c1:Int}{c2:Sl}{c3 c4:Int}{c5 c6:Int}{c7 c8:Int}{c9 c10:Sl}{c11 c12:Sl}{c13:Bool}{w:Wd}{K:Int->Int->Int->Sl->Sl->Int->Sl->Pw}(h:BT vv c0 c1 c2 c3 c4 c5 c6 c7 c8 c9 c10 c11 c12 c13 w K):aR vv c0 c1 c2 c3 c4 c5 c6 c7 c8 c9 c10 c11 c12 c13 w K:=
 mkD (pk:=PK) (s:=BU) (args:=[.pointer vv,.agg ([.int .i64 c0,.int .u32 c1,.slice c2.a c2.len c2.cap,.int .i64 c3,.int .i64 c4,.int .u64 c5,.int .u64 c6,.int .u64 c7,.int .u8 c8,.slice c9.a c9.len c9.cap,.slice c10.a c10.len c10.cap,.slice c11.a c11.len c11.cap,.slice c12.a c12.len c12.cap,.bool c13]).toArray]) (tys:=[.agg [.one (.int .i64),.one (.int .u64),.one (.int .u64),.one (.sl),.one (.sl),.one (.int .i64),.one (.sl)]]) (K:=K) (w:=w) Tryz.func14 (by kernel_rfl) (by kernel_rfl) (by kernel_rfl) h
def uv(vv:Option Addr)(w:Wd)(K:Sl->Int->Pw):Prop:=au w (.cells [.slice none 0 0].toArray 55) fun c g=>au g (.cells [.int .i64 0].toArray 25) fun d h=>aE vv h fun f i=>If f (aH i (A0 c) (.slice none 0 0) fun j=>aH j (A0 d) (.int .i64 1) fun b=>∃a:Sl,Cell b (A0 c) a.u/\∃e:Int,Cell b (A0 d) (.int .i64 e)/\K a e b) (False)
def uw:Dp:=(.next n0 (.next (.block (qz (.cond (qz n0) .cut))) (.We (.We (.last .cut)))))
theorem ux{vv:Option Addr}{w:Wd}{K:Sl->Int->Pw}(h:uv vv w K):eu vv w K:=
 mkD (pk:=PK) (s:=uw) (args:=[.pointer vv]) (tys:=[.one (.sl),.one (.int .i64)]) (K:=K) (w:=w) Tryz.func13 (by kernel_rfl) (by kernel_rfl) (by kernel_rfl) h
end Go.Proofs.YtiigcapldngijaaGreat
