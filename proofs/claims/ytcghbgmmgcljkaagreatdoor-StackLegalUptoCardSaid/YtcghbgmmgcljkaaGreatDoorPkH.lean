/-
  Texts of this claim, joined by a program of mine: what the theorem uses.
-/
import Derived.Test.YtcghbgmmgcljkaaGreatDoorPkF
import Derived.Test.YtcghbgmmgcljkaaGreatDoorPkC
import Derived.Test.YtcghbgmmgcljkaaGreatDoorPkG
open ByteArray renaming mk→Qa
noncomputable section
set_option linter.unusedVariables false
section
namespace Go.Proofs.YtcghbgmmgcljkaaGreatDoor
open Go.Awp Go.Tx
open IntKind (i64)
open Go.Proofs.Tryz (prog)
set_option maxHeartbeats 4000000
set_option maxRecDepth 100000
def JE:Cut SN:=⟨[(0, .bp 0 0)],[(0, .bar 18 (.st .operationT))]⟩
def MK:aE vw:={rcut:=JE}
def Gz:Sig vw:=sg [] JE [.cell 0 207]
noncomputable def gN(v:Unit):Option ((List aG)×Unit):=some (([aG.mk none none,aG.mk none none,aG.mk none none,aG.mk none none,aG.mk none none,aG.mk (some (178:Nat)) none,aG.mk (some (179:Nat)) none,aG.mk (some (180:Nat)) none,aG.mk (some (181:Nat)) none,aG.mk (some (182:Nat)) none,aG.mk (some (178:Nat)) (some (169:Nat)),aG.mk (some (179:Nat)) (some (169:Nat)),aG.mk (some (180:Nat)) (some (169:Nat)),aG.mk (some (178:Nat)) (some (183:Nat)),aG.mk (some (179:Nat)) (some (183:Nat)),aG.mk (some (184:Nat)) (some (169:Nat)),aG.mk (some (185:Nat)) (some (169:Nat)),aG.mk (some (186:Nat)) (some (169:Nat))],()))
def PU:Xc vw:=mX prog 26 c0 MK [] [] []
theorem DW:aB prog 170 Gz gN:=fn0 PU Tryz.func170 bG
def MO:aE vw:={rcut:=bj}
def GA:Sig vw:=sg [Dq1,Dq1] bj [.tmp 4]
noncomputable def xq(v:Int×Int×Unit):Option (Int×Unit):=some ((i64.wrap (v.1+v.2.1),()))
def PY:Xc vw:=mX prog 8 c0 MO [] [] []
theorem DZ:aB prog 178 GA xq:=fn0 PY Tryz.func178 bG
def MP:aE vw:={rcut:=bj}
def GB:Sig vw:=sg [Dq1,Dq1] bj [.tmp 4]
noncomputable def xr(v:Int×Int×Unit):Option (Int×Unit):=some ((i64.wrap (v.1-v.2.1),()))
def PZ:Xc vw:=mX prog 8 c0 MP [] [] []
theorem D0:aB prog 179 GB xr:=fn0 PZ Tryz.func179 bG
def MQ:aE vw:={rcut:=bj}
def GC:Sig vw:=sg [Dq1,Dq1] bj [.tmp 4]
noncomputable def AA(v:Int×Int×Unit):Option (Int×Unit):=some ((i64.wrap (v.1 *v.2.1),()))
def P0:Xc vw:=mX prog 8 c0 MQ [] [] []
theorem D1:aB prog 180 GC AA:=fn0 P0 Tryz.func180 bG
def MR:aE vw:={rcut:=bj}
def GD:Sig vw:=sg [Dq1,Dq1] bj [.tmp 4]
noncomputable def D2(v:Int×Int×Unit):Option (Int×Unit):=if v.2.1=0 then none else some ((i64.wrap (v.1.tdiv v.2.1),()))
def P1:Xc vw:=mX prog 8 c0 MR [] [] []
theorem D3:aB prog 181 GD D2:=fn0 P1 Tryz.func181 bG
def MS:aE vw:={rcut:=bj}
def GE:Sig vw:=sg [Dq1,Dq1] bj [.tmp 4]
noncomputable def AB(v:Int×Int×Unit):Option (Int×Unit):=if v.2.1=0 then none else some ((v.1.tmod v.2.1,()))
def P2:Xc vw:=mX prog 8 c0 MS [] [] []
theorem D4:aB prog 182 GE AB:=fn0 P2 Tryz.func182 bG
def MT:aE vw:={rcut:=bj}
def GF:Sig vw:=sg [wD,Dq1] bj [.tmp 4]
noncomputable def AC(v:bn×Int×Unit):Option (Int×Unit):=Az (v.1,())>>=λx1=>xp (v.1,())>>=λx2=>some ((max x1.1 (min x2.1 v.2.1),()))
def zn:=kP vU (kP qA k0)
def P3:Xc vw:=mX prog 12 zn.1 MT [] [] []
theorem D5:aB prog 183 GF AC:=fn0 P3 Tryz.func183 zn.2
def MU:aE vw:={rcut:=bj}
def GG:Sig vw:=sg [Dq1,Dq1] bj [.tmp 4]
noncomputable def D6(v:Int×Int×Unit):Option (Int×Unit):=some ((Bs.iand i64 v.1 v.2.1,()))
def P4:Xc vw:=mX prog 8 c0 MU [] [] []
theorem D7:aB prog 184 GG D6:=fn0 P4 Tryz.func184 bG
def MV:aE vw:={rcut:=bj}
def GH:Sig vw:=sg [Dq1,Dq1] bj [.tmp 4]
noncomputable def D8(v:Int×Int×Unit):Option (Int×Unit):=some ((Bs.ior i64 v.1 v.2.1,()))
def P5:Xc vw:=mX prog 8 c0 MV [] [] []
theorem D9:aB prog 185 GH D8:=fn0 P5 Tryz.func185 bG
def MW:aE vw:={rcut:=bj}
def GI:Sig vw:=sg [Dq1,Dq1] bj [.tmp 4]
noncomputable def D_(v:Int×Int×Unit):Option (Int×Unit):=some ((Bs.ixor i64 v.1 v.2.1,()))
def P6:Xc vw:=mX prog 8 c0 MW [] [] []
theorem Ea:aB prog 186 GI D_:=fn0 P6 Tryz.func186 bG
def Jy:Cut SN:=⟨[(0,Dq1),(2,Dq1),(3,Dq1),(5, .bp 5 0),(17,Dq4)],[(5, .st .myIntT)]⟩
def Jz:Cut SN:=⟨[(0,Dq1),(2,Dq1),(3,Dq1),(5, .bp 5 0),(23,Dq4)],[(5, .st .myIntT)]⟩
def JA:Cut SN:=⟨[(0,Dq1),(2,Dq1),(3,Dq1),(5, .bp 5 0),(10, .bp 10 0),(11,Dq1)],[(5, .st .myIntT),(10, .st .operationT)]⟩
def mb:Cut SN:=⟨[(8,Dq1),(9,Dq1)],[]⟩
def JB:Cut SN:=⟨[(5, .bp 5 0),(11,Dq1),(56,Dq4)],[(5, .st .myIntT)]⟩
def MD:aE vw:={rcut:=mb}
def KT:Sig vw:=sg [Dq1,wD,Dq1,Dq1] mb [.tmp 8, .tmp 9]
noncomputable def Ay(v:Lf):Option (Int×Int×Unit):=(if(v.2.2.2.1==0)=true then some ((v.1,v.2.2.1,v.2.2.2.1,v.1==8,v.2.1,()))else some ((v.1,v.2.2.1,v.2.2.2.1,false,v.2.1,())))>>=λx1=>if x1.2.2.2.1=true then some (((0:Int),(2:Int),()))else(if(x1.2.2.1==0)=true then some (x1.1,x1.2.1,x1.2.2.1,x1.1==9,x1.2.2.2.2)else some (x1.1,x1.2.1,x1.2.2.1,false,x1.2.2.2.2))>>=λx2=>if x2.2.2.2.1=true then some ((x2.2.1,(2:Int),()))else gN ()>>=λx3=>if 0<=x2.1/\x2.1<(↑(18:Nat):Int)then x3.1[x2.1.toNat]?>>=λx4=>((x4.whole:Option (Nat))>>=λx5=>if x5=(157:Nat)then none else if x5=(169:Nat)then none else if x5=(170:Nat)then none else if x5=(178:Nat)then xq (x2.2.1,x2.2.2.1,())>>=λx6=>some ((x2.1,x2.2.1,x2.2.2.1,x6.1,x2.2.2.2.2.1,x4,()))else if x5=(179:Nat)then xr (x2.2.1,x2.2.2.1,())>>=λx6=>some ((x2.1,x2.2.1,x2.2.2.1,x6.1,x2.2.2.2.2.1,x4,()))else if x5=(180:Nat)then AA (x2.2.1,x2.2.2.1,())>>=λx6=>some ((x2.1,x2.2.1,x2.2.2.1,x6.1,x2.2.2.2.2.1,x4,()))else if x5=(181:Nat)then D2 (x2.2.1,x2.2.2.1,())>>=λx6=>some ((x2.1,x2.2.1,x2.2.2.1,x6.1,x2.2.2.2.2.1,x4,()))else if x5=(182:Nat)then AB (x2.2.1,x2.2.2.1,())>>=λx6=>some ((x2.1,x2.2.1,x2.2.2.1,x6.1,x2.2.2.2.2.1,x4,()))else if x5=(183:Nat)then none else if x5=(184:Nat)then D6 (x2.2.1,x2.2.2.1,())>>=λx6=>some ((x2.1,x2.2.1,x2.2.2.1,x6.1,x2.2.2.2.2.1,x4,()))else if x5=(185:Nat)then D8 (x2.2.1,x2.2.2.1,())>>=λx6=>some ((x2.1,x2.2.1,x2.2.2.1,x6.1,x2.2.2.2.2.1,x4,()))else if x5=(186:Nat)then D_ (x2.2.1,x2.2.2.1,())>>=λx6=>some ((x2.1,x2.2.1,x2.2.2.1,x6.1,x2.2.2.2.2.1,x4,()))else none)>>=λx5=>if x5.2.2.2.2.2.1.into.isSome=true then((x5.2.2.2.2.2.1.into:Option (Nat))>>=λx6=>if x6=(157:Nat)then lj (x5.2.2.2.2.1,x5.2.2.2.1,())>>=λx7=>none else if x6=(169:Nat)then uc (x5.2.2.2.2.1,x5.2.2.2.1,())>>=λx7=>some ((x7.1,(0:Int),()))else if x6=(170:Nat)then none else if x6=(178:Nat)then none else if x6=(179:Nat)then none else if x6=(180:Nat)then none else if x6=(181:Nat)then none else if x6=(182:Nat)then none else if x6=(183:Nat)then AC (x5.2.2.2.2.1,x5.2.2.2.1,())>>=λx7=>some ((x7.1,(0:Int),()))else if x6=(184:Nat)then none else if x6=(185:Nat)then none else if x6=(186:Nat)then none else none)>>=λx6=>some (x6)else(lj (x5.2.2.2.2.1,x5.2.2.2.1,())>>=λx6=>if(!x6.1)=true then some ((x5.2.2.2.1,true,x5.2.2.2.2.1,()))else if(x5.1==9)=true then if x5.2.2.1=0 then none else lj (x5.2.2.2.2.1,i64.wrap (x5.2.1.tdiv x5.2.2.1),())>>=λx7=>some ((x5.2.2.2.1,!x7.1,x5.2.2.2.2.1,()))else some ((x5.2.2.2.1,false,x5.2.2.2.2.1,())))>>=λx6=>if x6.2.1=true then uc (x6.2.2.1,x6.1,())>>=λx7=>some ((x7.1,(1:Int),()))else some ((x6.1,(0:Int),()))else none
def tJ:cy vw:=λA fid args S k=>if fid=157 then bM prog Gx lj A args S k else if fid=169 then bM prog Gy uc A args S k else if fid=170 then bM prog Gz gN A args S k else if fid=178 then bM prog GA xq A args S k else if fid=179 then bM prog GB xr A args S k else if fid=180 then bM prog GC AA A args S k else if fid=181 then bM prog GD D2 A args S k else if fid=182 then bM prog GE AB A args S k else if fid=183 then bM prog GF AC A args S k else if fid=184 then bM prog GG D6 A args S k else if fid=185 then bM prog GH D8 A args S k else if fid=186 then bM prog GI D_ A args S k else none
def PN:Xc vw:=mX prog 61 tJ MD [] [(1,Jy),(3,Jz),(6,JA),(8,mb),(9,JB)] []
theorem wU:aZ prog tJ:=λA fid args S dst k r h=>by
 unfold tJ at h
 rcases aP h with⟨e,h⟩|⟨e,h⟩
 ·subst e;exact aY (lM) rfl rfl h
 ·
  rcases aP h with⟨e,h⟩|⟨e,h⟩
  ·subst e;exact aY (vT) rfl rfl h
  ·
   rcases aP h with⟨e,h⟩|⟨e,h⟩
   ·subst e;exact aY (DW) rfl rfl h
   ·
    rcases aP h with⟨e,h⟩|⟨e,h⟩
    ·subst e;exact aY (DZ) rfl rfl h
    ·
     rcases aP h with⟨e,h⟩|⟨e,h⟩
     ·subst e;exact aY (D0) rfl rfl h
     ·
      rcases aP h with⟨e,h⟩|⟨e,h⟩
      ·subst e;exact aY (D1) rfl rfl h
      ·
       rcases aP h with⟨e,h⟩|⟨e,h⟩
       ·subst e;exact aY (D3) rfl rfl h
       ·
        rcases aP h with⟨e,h⟩|⟨e,h⟩
        ·subst e;exact aY (D4) rfl rfl h
        ·
         rcases aP h with⟨e,h⟩|⟨e,h⟩
         ·subst e;exact aY (D5) rfl rfl h
         ·
          rcases aP h with⟨e,h⟩|⟨e,h⟩
          ·subst e;exact aY (D7) rfl rfl h
          ·
           rcases aP h with⟨e,h⟩|⟨e,h⟩
           ·subst e;exact aY (D9) rfl rfl h
           ·
            rcases aP h with⟨e,h⟩|⟨e,h⟩
            ·subst e;exact aY (Ea) rfl rfl h
            ·
             cases h
theorem vS:aB prog 156 KT Ay:=fn0 PN Tryz.func156 wU
def Jn:Cut SN:=⟨[(8,Dq1),(9,Dq1),(10,Dq1)],[]⟩
def Mo:aE vw:={rcut:=Jn}
def KE:Sig vw:=sg [Dq1,wD,Dq1,Dq1] Jn [.tmp 8, .tmp 9, .tmp 10]
noncomputable def Dx(v:Lf):Option (Ja):=Ax v>>=λx1=>if(x1.1 !=0)=true then some (((0:Int),(0:Int),x1))else Ay v>>=λx2=>if(x2.2.1 !=0)=true then some (((0:Int),x2.2.1,(0:Int),()))else some ((x2.1,(0:Int),(0:Int),()))
def za:=kP vR (kP vS k0)
def PB:Xc vw:=mX prog 34 za.1 Mo [] [] []
theorem Dy:aB prog 125 KE Dx:=fn0 PB Tryz.func125 za.2
def Mr:aE vw:={rcut:=mb}
def KG:Sig vw:=sg [Dq1,wD,Dq1,Dq1] mb [.tmp 8, .tmp 9]
noncomputable def Dz(v:Lf):Option (Int×Int×Unit):=Ax v>>=λx1=>if(x1.1 !=0)=true then some (((0:Int),x1))else Ay v>>=λx2=>some ((x2.1,(0:Int),()))
def zb:=kP vR (kP vS k0)
def PD:Xc vw:=mX prog 30 zb.1 Mr [] [] []
theorem DA:aB prog 127 KG Dz:=fn0 PD Tryz.func127 zb.2
def tE:Cut SN:=⟨[(0, .bp 100000 0),(1,Dq1)],[(100000, .box none [.bp 100001 0,Dq6,Dq1,Dq1,Dq1,Dq1,Dq6,Dq4,Dq4,Dq7, .vh 100002, .vh 100003,Dq1,Dq1,Dq8]),(100001, .box none [Dq3,Dq4,Dq1, .vh 100004,Dq1, .vh 100005,Dq1,Dq5]),(100002,Oq2),(100003,Oq2),(100004,Oq9),(100005,Oq2)]⟩
def tF:Cut SN:=⟨[(0, .bp 100000 0),(1,Dq1),(2,Dq1),(3,Dq1),(18,Dq4)],[(100000, .box none [.bp 100001 0,Dq6,Dq1,Dq1,Dq1,Dq1,Dq6,Dq4,Dq4,Dq7, .vh 100002, .vh 100003,Dq1,Dq1,Dq8]),(100001, .box none [Dq3,Dq4,Dq1, .vh 100004,Dq1, .vh 100005,Dq1,Dq5]),(100002,Oq2),(100003,Oq2),(100004,Oq9),(100005,Oq2)]⟩
def xV:aE vw:={rcut:=aw}
def uE:Sig vw:={params:=[.bp 100000 0,Dq1,Dq1,Dq1],objs:=[(100000, .box none [.bp 100001 0,Dq6,Dq1,Dq1,Dq1,Dq1,Dq6,Dq4,Dq4,Dq7, .vh 100002, .vh 100003,Dq1,Dq1,Dq8]),(100001, .box none [Dq3,Dq4,Dq1, .vh 100004,Dq1, .vh 100005,Dq1,Dq5]),(100002,Oq2),(100003,Oq2),(100004,Oq9),(100005,Oq2)],rcut:=aw,rvars:=[],keep:=[100000,100001,100002,3011,100004,100005]}
noncomputable def dF(v:Int×Int×Int×ByteArray×Int×Int×Int×Int×ByteArray×Bool×Bool×(List au)×Int×Int×(Option ah)×(List af)×Bool×Int×Int×Int×(Option aT)×(List ah)×(List ah)×(List Int)×(List ah)×Unit):Option (Tq1):=(if(v.2.2.1 !=0)=true then some (v.1,v.2.1,v.2.2.1,v.2.2.2.2.2.2.2.2.2.2.2.2.2.2.2.2.1,v.2.2.2)else some (v.1,v.2.1,v.2.2.1,false,v.2.2.2))>>=λx1=>if x1.2.2.2.1=true then cW ((1:Int),x1.2.2.1,x1.2.2.2.2.2.2.2.2.2.2.2.2.2.2.2.2.1,x1.2.2.2.2.2.2.2.2.2.2.2.2.2.2.2.2.2.1,x1.2.2.2.2.2.2.2.2.2.2.2.2.2.2.2.2.2.2.1,x1.2.2.2.2.2.2.2.2.2.2.2.2.2.2.2.2.2.2.2.1,x1.2.2.2.2.2.2.2.2.2.2.2.2.2.2.2.2.2.2.2.2.1,x1.2.2.2.2.2.2.2.2.2.2.2.2.2.2.2.2.2.2.2.2.2.1,x1.2.2.2.2.2.2.2.2.2.2.2.2.2.2.2.2.2.2.2.2.2.2.2.2)>>=λx2=>if x2.2.2.2.2.2.2.1.length=x1.2.2.2.2.2.2.2.2.2.2.2.2.2.2.2.2.2.2.2.2.2.2.2.2.1.length then if x2.2.2.2.2.2.2.2.1.length=x1.2.2.2.2.2.2.2.2.2.2.2.2.2.2.2.2.2.2.2.2.2.2.2.2.2.1.length then some (x1.2.2.2.2.1,x1.2.2.2.2.2.1,x1.2.2.2.2.2.2.1,x1.2.2.2.2.2.2.2.1,x1.2.2.2.2.2.2.2.2.1,x1.2.2.2.2.2.2.2.2.2.1,x1.2.2.2.2.2.2.2.2.2.2.1,x1.2.2.2.2.2.2.2.2.2.2.2.1,x1.2.2.2.2.2.2.2.2.2.2.2.2.1,x1.2.2.2.2.2.2.2.2.2.2.2.2.2.1,x1.2.2.2.2.2.2.2.2.2.2.2.2.2.2.1,x1.2.2.2.2.2.2.2.2.2.2.2.2.2.2.2.1,x2.1,x2.2.1,x2.2.2.1,x2.2.2.2.1,x2.2.2.2.2.1,x2.2.2.2.2.2.1,x1.2.2.2.2.2.2.2.2.2.2.2.2.2.2.2.2.2.2.2.2.2.2.1,x1.2.2.2.2.2.2.2.2.2.2.2.2.2.2.2.2.2.2.2.2.2.2.2.1,x2.2.2.2.2.2.2)else none else none else(if(x1.2.2.1 !=0)=true then some (x1.2.1,x1.2.2.2.2)else some (x1.1,x1.2.2.2.2))>>=λx2=>qw (x2.1,())>>=λx3=>bJ (x3.1,x2.2)>>=λx4=>if x4.2.2.2.2.2.2.2.2.2.2.2.2.2.2.2.2.2.2.1.length=x2.2.2.2.2.2.2.2.2.2.2.2.2.2.2.2.2.2.2.2.1.length then if x4.2.2.2.2.2.2.2.2.2.2.2.2.2.2.2.2.2.2.2.2.1.length=x2.2.2.2.2.2.2.2.2.2.2.2.2.2.2.2.2.2.2.2.2.2.1.length then if x4.2.2.2.2.2.2.2.2.2.2.2.2.2.2.2.2.2.2.2.2.2.1.length=x2.2.2.2.2.2.2.2.2.2.2.2.2.2.2.2.2.2.2.2.2.2.2.1.length then some (x4)else none else none else none
def kd:=kO fp (kO bI (kP jm k0))
def Cw:Xc vw:=mX prog 32 kd.1 xV [(4,tE,[.norm])] [(0,tF)] []
theorem ef:aB prog 128 uE dF:=fn0 Cw Tryz.func128 kd.2
def BJ:aE vw:={rcut:=aw}
def pE:Sig vw:={params:=[.bp 100000 0,lU],objs:=[(100000, .box none [.bp 100001 0,Dq6,Dq1,Dq1,Dq1,Dq1,Dq6,Dq4,Dq4,Dq7, .vh 100002, .vh 100003,Dq1,Dq1,Dq8]),(100001, .box none [Dq3,Dq4,Dq1, .vh 100004,Dq1, .vh 100005,Dq1,Dq5]),(100002,Oq2),(100003,Oq2),(100004,Oq9),(100005,Oq2)],rcut:=aw,rvars:=[],keep:=[100000,100001,100002,3011,100004,100005]}
noncomputable def eP(v:Tq2):Option (Tq1):=bk v.2>>=λx1=>if x1.2.2.2.2.2.2.2.2.2.2.2.2.2.2.2.2.2.2.1.length=v.2.2.2.2.2.2.2.2.2.2.2.2.2.2.2.2.2.2.2.1.length then if x1.2.2.2.2.2.2.2.2.2.2.2.2.2.2.2.2.2.2.2.2.1.length=v.2.2.2.2.2.2.2.2.2.2.2.2.2.2.2.2.2.2.2.2.2.1.length then if x1.2.2.2.2.2.2.2.2.2.2.2.2.2.2.2.2.2.2.2.2.2.1.length=v.2.2.2.2.2.2.2.2.2.2.2.2.2.2.2.2.2.2.2.2.2.2.1.length then nj (v.1.type0,x1.2.2.2.2.2.2.2.2.2.2.2.2.2.2.2.2.2.2.2.2.2.2.1.n,())>>=λx2=>bk (x1.1,x1.2.1,x1.2.2.1,x1.2.2.2.1,x1.2.2.2.2.1,x1.2.2.2.2.2.1,x1.2.2.2.2.2.2.1,x1.2.2.2.2.2.2.2.1,x1.2.2.2.2.2.2.2.2.1,x1.2.2.2.2.2.2.2.2.2.1,x1.2.2.2.2.2.2.2.2.2.2.1,x1.2.2.2.2.2.2.2.2.2.2.2.1,x1.2.2.2.2.2.2.2.2.2.2.2.2.1,x1.2.2.2.2.2.2.2.2.2.2.2.2.2.1,x1.2.2.2.2.2.2.2.2.2.2.2.2.2.2.1,x1.2.2.2.2.2.2.2.2.2.2.2.2.2.2.2.1,x1.2.2.2.2.2.2.2.2.2.2.2.2.2.2.2.2.1,x1.2.2.2.2.2.2.2.2.2.2.2.2.2.2.2.2.2.1,x1.2.2.2.2.2.2.2.2.2.2.2.2.2.2.2.2.2.2.1,x1.2.2.2.2.2.2.2.2.2.2.2.2.2.2.2.2.2.2.2.1,x1.2.2.2.2.2.2.2.2.2.2.2.2.2.2.2.2.2.2.2.2.1,x1.2.2.2.2.2.2.2.2.2.2.2.2.2.2.2.2.2.2.2.2.2.1,())>>=λx3=>if x3.2.2.2.2.2.2.2.2.2.2.2.2.2.2.2.2.2.2.1.length=x1.2.2.2.2.2.2.2.2.2.2.2.2.2.2.2.2.2.2.1.length then if x3.2.2.2.2.2.2.2.2.2.2.2.2.2.2.2.2.2.2.2.2.1.length=x1.2.2.2.2.2.2.2.2.2.2.2.2.2.2.2.2.2.2.2.2.1.length then if x3.2.2.2.2.2.2.2.2.2.2.2.2.2.2.2.2.2.2.2.2.2.1.length=x1.2.2.2.2.2.2.2.2.2.2.2.2.2.2.2.2.2.2.2.2.2.1.length then nj (v.1.type0,x3.2.2.2.2.2.2.2.2.2.2.2.2.2.2.2.2.2.2.2.2.2.2.1.n,())>>=λx4=>rZ (v.1.type0,())>>=λx5=>Dx (v.1.a,x5.1,x4.1,x2)>>=λx6=>rZ (v.1.type0,())>>=λx7=>Dz (v.1.a,x7.1,x4.1,x2)>>=λx8=>dF (x6.1,x8.1,x6.2.1,x3.1,x3.2.1,x3.2.2.1,x3.2.2.2.1,x3.2.2.2.2.1,x3.2.2.2.2.2.1,x3.2.2.2.2.2.2.1,x3.2.2.2.2.2.2.2.1,x3.2.2.2.2.2.2.2.2.1,x3.2.2.2.2.2.2.2.2.2.1,x3.2.2.2.2.2.2.2.2.2.2.1,x3.2.2.2.2.2.2.2.2.2.2.2.1,x3.2.2.2.2.2.2.2.2.2.2.2.2.1,x3.2.2.2.2.2.2.2.2.2.2.2.2.2.1,x3.2.2.2.2.2.2.2.2.2.2.2.2.2.2.1,x3.2.2.2.2.2.2.2.2.2.2.2.2.2.2.2.1,x3.2.2.2.2.2.2.2.2.2.2.2.2.2.2.2.2.1,x3.2.2.2.2.2.2.2.2.2.2.2.2.2.2.2.2.2.1,x3.2.2.2.2.2.2.2.2.2.2.2.2.2.2.2.2.2.2.1,x3.2.2.2.2.2.2.2.2.2.2.2.2.2.2.2.2.2.2.2.1,x3.2.2.2.2.2.2.2.2.2.2.2.2.2.2.2.2.2.2.2.2.1,x3.2.2.2.2.2.2.2.2.2.2.2.2.2.2.2.2.2.2.2.2.2.1,())>>=λx9=>if x9.2.2.2.2.2.2.2.2.2.2.2.2.2.2.2.2.2.2.1.length=x3.2.2.2.2.2.2.2.2.2.2.2.2.2.2.2.2.2.2.1.length then if x9.2.2.2.2.2.2.2.2.2.2.2.2.2.2.2.2.2.2.2.2.1.length=x3.2.2.2.2.2.2.2.2.2.2.2.2.2.2.2.2.2.2.2.2.1.length then if x9.2.2.2.2.2.2.2.2.2.2.2.2.2.2.2.2.2.2.2.2.2.1.length=x3.2.2.2.2.2.2.2.2.2.2.2.2.2.2.2.2.2.2.2.2.2.1.length then some (x9)else none else none else none else none else none else none else none else none else none
def ml:=kP jn (kO bi (kP Dy (kP lL (kP DA (kO ef k0)))))
def FA:Xc vw:=mX prog 51 ml.1 BJ [] [] []
theorem kA:aB prog 82 pE eP:=fn0 FA Tryz.func82 ml.2
def BK:aE vw:={rcut:=aw}
def pF:Sig vw:={params:=[.bp 100000 0,lU],objs:=[(100000, .box none [.bp 100001 0,Dq6,Dq1,Dq1,Dq1,Dq1,Dq6,Dq4,Dq4,Dq7, .vh 100002, .vh 100003,Dq1,Dq1,Dq8]),(100001, .box none [Dq3,Dq4,Dq1, .vh 100004,Dq1, .vh 100005,Dq1,Dq5]),(100002,Oq2),(100003,Oq2),(100004,Oq9),(100005,Oq2)],rcut:=aw,rvars:=[],keep:=[100000,100001,100002,3011,100004,100005]}
noncomputable def eQ(v:Tq2):Option (Tq1):=bk v.2>>=λx1=>if x1.2.2.2.2.2.2.2.2.2.2.2.2.2.2.2.2.2.2.1.length=v.2.2.2.2.2.2.2.2.2.2.2.2.2.2.2.2.2.2.2.1.length then if x1.2.2.2.2.2.2.2.2.2.2.2.2.2.2.2.2.2.2.2.2.1.length=v.2.2.2.2.2.2.2.2.2.2.2.2.2.2.2.2.2.2.2.2.2.1.length then if x1.2.2.2.2.2.2.2.2.2.2.2.2.2.2.2.2.2.2.2.2.2.1.length=v.2.2.2.2.2.2.2.2.2.2.2.2.2.2.2.2.2.2.2.2.2.2.1.length then bk (x1.1,x1.2.1,x1.2.2.1,x1.2.2.2.1,x1.2.2.2.2.1,x1.2.2.2.2.2.1,x1.2.2.2.2.2.2.1,x1.2.2.2.2.2.2.2.1,x1.2.2.2.2.2.2.2.2.1,x1.2.2.2.2.2.2.2.2.2.1,x1.2.2.2.2.2.2.2.2.2.2.1,x1.2.2.2.2.2.2.2.2.2.2.2.1,x1.2.2.2.2.2.2.2.2.2.2.2.2.1,x1.2.2.2.2.2.2.2.2.2.2.2.2.2.1,x1.2.2.2.2.2.2.2.2.2.2.2.2.2.2.1,x1.2.2.2.2.2.2.2.2.2.2.2.2.2.2.2.1,x1.2.2.2.2.2.2.2.2.2.2.2.2.2.2.2.2.1,x1.2.2.2.2.2.2.2.2.2.2.2.2.2.2.2.2.2.1,x1.2.2.2.2.2.2.2.2.2.2.2.2.2.2.2.2.2.2.1,x1.2.2.2.2.2.2.2.2.2.2.2.2.2.2.2.2.2.2.2.1,x1.2.2.2.2.2.2.2.2.2.2.2.2.2.2.2.2.2.2.2.2.1,x1.2.2.2.2.2.2.2.2.2.2.2.2.2.2.2.2.2.2.2.2.2.1,())>>=λx2=>if x2.2.2.2.2.2.2.2.2.2.2.2.2.2.2.2.2.2.2.1.length=x1.2.2.2.2.2.2.2.2.2.2.2.2.2.2.2.2.2.2.1.length then if x2.2.2.2.2.2.2.2.2.2.2.2.2.2.2.2.2.2.2.2.2.1.length=x1.2.2.2.2.2.2.2.2.2.2.2.2.2.2.2.2.2.2.2.2.1.length then if x2.2.2.2.2.2.2.2.2.2.2.2.2.2.2.2.2.2.2.2.2.2.1.length=x1.2.2.2.2.2.2.2.2.2.2.2.2.2.2.2.2.2.2.2.2.2.1.length then if 0<=i64.wrap (v.1.a-18)/\i64.wrap (v.1.a-18)<(↑(6:Nat):Int)then[x2.2.2.2.2.2.2.2.2.2.2.2.2.2.2.2.2.2.2.2.2.2.2.1.n==x1.2.2.2.2.2.2.2.2.2.2.2.2.2.2.2.2.2.2.2.2.2.2.1.n,x2.2.2.2.2.2.2.2.2.2.2.2.2.2.2.2.2.2.2.2.2.2.2.1.n !=x1.2.2.2.2.2.2.2.2.2.2.2.2.2.2.2.2.2.2.2.2.2.2.1.n,decide (x2.2.2.2.2.2.2.2.2.2.2.2.2.2.2.2.2.2.2.2.2.2.2.1.n<x1.2.2.2.2.2.2.2.2.2.2.2.2.2.2.2.2.2.2.2.2.2.2.1.n),decide (x2.2.2.2.2.2.2.2.2.2.2.2.2.2.2.2.2.2.2.2.2.2.2.1.n<=x1.2.2.2.2.2.2.2.2.2.2.2.2.2.2.2.2.2.2.2.2.2.2.1.n),decide (x2.2.2.2.2.2.2.2.2.2.2.2.2.2.2.2.2.2.2.2.2.2.2.1.n>x1.2.2.2.2.2.2.2.2.2.2.2.2.2.2.2.2.2.2.2.2.2.2.1.n),decide (x2.2.2.2.2.2.2.2.2.2.2.2.2.2.2.2.2.2.2.2.2.2.2.1.n>=x1.2.2.2.2.2.2.2.2.2.2.2.2.2.2.2.2.2.2.2.2.2.2.1.n)][(i64.wrap (v.1.a-18)).toNat]?>>=λx3=>xj (x3,())>>=λx4=>bJ (x4.1,x2.1,x2.2.1,x2.2.2.1,x2.2.2.2.1,x2.2.2.2.2.1,x2.2.2.2.2.2.1,x2.2.2.2.2.2.2.1,x2.2.2.2.2.2.2.2.1,x2.2.2.2.2.2.2.2.2.1,x2.2.2.2.2.2.2.2.2.2.1,x2.2.2.2.2.2.2.2.2.2.2.1,x2.2.2.2.2.2.2.2.2.2.2.2.1,x2.2.2.2.2.2.2.2.2.2.2.2.2.1,x2.2.2.2.2.2.2.2.2.2.2.2.2.2.1,x2.2.2.2.2.2.2.2.2.2.2.2.2.2.2.1,x2.2.2.2.2.2.2.2.2.2.2.2.2.2.2.2.1,x2.2.2.2.2.2.2.2.2.2.2.2.2.2.2.2.2.1,x2.2.2.2.2.2.2.2.2.2.2.2.2.2.2.2.2.2.1,x2.2.2.2.2.2.2.2.2.2.2.2.2.2.2.2.2.2.2.1,x2.2.2.2.2.2.2.2.2.2.2.2.2.2.2.2.2.2.2.2.1,x2.2.2.2.2.2.2.2.2.2.2.2.2.2.2.2.2.2.2.2.2.1,x2.2.2.2.2.2.2.2.2.2.2.2.2.2.2.2.2.2.2.2.2.2.1,())>>=λx5=>if x5.2.2.2.2.2.2.2.2.2.2.2.2.2.2.2.2.2.2.1.length=x2.2.2.2.2.2.2.2.2.2.2.2.2.2.2.2.2.2.2.1.length then if x5.2.2.2.2.2.2.2.2.2.2.2.2.2.2.2.2.2.2.2.2.1.length=x2.2.2.2.2.2.2.2.2.2.2.2.2.2.2.2.2.2.2.2.2.1.length then if x5.2.2.2.2.2.2.2.2.2.2.2.2.2.2.2.2.2.2.2.2.2.1.length=x2.2.2.2.2.2.2.2.2.2.2.2.2.2.2.2.2.2.2.2.2.2.1.length then some (x5)else none else none else none else none else none else none else none else none else none else none
def mm:=kO bI (kO bi (kP qy k0))
def FB:Xc vw:=mX prog 38 mm.1 BK [] [] []
theorem kB:aB prog 83 pF eQ:=fn0 FB Tryz.func83 mm.2
def Jo:Cut SN:=⟨[(1,Dq1),(2, .bp 2 0),(15,Dq4)],[(2, .st .myIntT)]⟩
def Jp:Cut SN:=⟨[(4,Dq1),(5,Dq1),(6,Dq1)],[]⟩
def Mt:aE vw:={rcut:=Jp}
def KI:Sig vw:=sg [wD,Dq1] Jp [.tmp 4, .tmp 5, .tmp 6]
noncomputable def DB(v:bn×Int×Unit):Option (Ja):=(nr (v.1,())>>=λx1=>if(x1.1 !=0)=true then some ((v.2.1,true,v.1,()))else lj v>>=λx2=>some ((v.2.1,!x2.1,v.1,())))>>=λx1=>if x1.2.1=true then some (((0:Int),(0:Int),(1:Int),()))else lj (x1.2.2.1,i64.wrap ((0:Int) -x1.1),())>>=λx2=>if(!x2.1)=true then some (((0:Int),(1:Int),(0:Int),()))else some ((i64.wrap ((0:Int) -x1.1),(0:Int),(0:Int),()))
def zd:=kP hO (kP lM k0)
def PF:Xc vw:=mX prog 23 zd.1 Mt [] [(1,Jo)] []
theorem DC:aB prog 130 KI DB:=fn0 PF Tryz.func130 zd.2
def BL:aE vw:={rcut:=aw}
def pG:Sig vw:={params:=[.bp 100000 0,lU],objs:=[(100000, .box none [.bp 100001 0,Dq6,Dq1,Dq1,Dq1,Dq1,Dq6,Dq4,Dq4,Dq7, .vh 100002, .vh 100003,Dq1,Dq1,Dq8]),(100001, .box none [Dq3,Dq4,Dq1, .vh 100004,Dq1, .vh 100005,Dq1,Dq5]),(100002,Oq2),(100003,Oq2),(100004,Oq9),(100005,Oq2)],rcut:=aw,rvars:=[],keep:=[100000,100001,100002,3011,100004,100005]}
noncomputable def eR(v:Tq2):Option (Tq1):=bk v.2>>=λx1=>if x1.2.2.2.2.2.2.2.2.2.2.2.2.2.2.2.2.2.2.1.length=v.2.2.2.2.2.2.2.2.2.2.2.2.2.2.2.2.2.2.2.1.length then if x1.2.2.2.2.2.2.2.2.2.2.2.2.2.2.2.2.2.2.2.2.1.length=v.2.2.2.2.2.2.2.2.2.2.2.2.2.2.2.2.2.2.2.2.2.1.length then if x1.2.2.2.2.2.2.2.2.2.2.2.2.2.2.2.2.2.2.2.2.2.1.length=v.2.2.2.2.2.2.2.2.2.2.2.2.2.2.2.2.2.2.2.2.2.2.1.length then nj (v.1.type0,x1.2.2.2.2.2.2.2.2.2.2.2.2.2.2.2.2.2.2.2.2.2.2.1.n,())>>=λx2=>rZ (v.1.type0,())>>=λx3=>DB (x3.1,x2)>>=λx4=>nj (v.1.type0,i64.wrap ((0:Int) -x2.1),())>>=λx5=>dF (x4.1,x5.1,x4.2.1,x1.1,x1.2.1,x1.2.2.1,x1.2.2.2.1,x1.2.2.2.2.1,x1.2.2.2.2.2.1,x1.2.2.2.2.2.2.1,x1.2.2.2.2.2.2.2.1,x1.2.2.2.2.2.2.2.2.1,x1.2.2.2.2.2.2.2.2.2.1,x1.2.2.2.2.2.2.2.2.2.2.1,x1.2.2.2.2.2.2.2.2.2.2.2.1,x1.2.2.2.2.2.2.2.2.2.2.2.2.1,x1.2.2.2.2.2.2.2.2.2.2.2.2.2.1,x1.2.2.2.2.2.2.2.2.2.2.2.2.2.2.1,x1.2.2.2.2.2.2.2.2.2.2.2.2.2.2.2.1,x1.2.2.2.2.2.2.2.2.2.2.2.2.2.2.2.2.1,x1.2.2.2.2.2.2.2.2.2.2.2.2.2.2.2.2.2.1,x1.2.2.2.2.2.2.2.2.2.2.2.2.2.2.2.2.2.2.1,x1.2.2.2.2.2.2.2.2.2.2.2.2.2.2.2.2.2.2.2.1,x1.2.2.2.2.2.2.2.2.2.2.2.2.2.2.2.2.2.2.2.2.1,x1.2.2.2.2.2.2.2.2.2.2.2.2.2.2.2.2.2.2.2.2.2.1,())>>=λx6=>if x6.2.2.2.2.2.2.2.2.2.2.2.2.2.2.2.2.2.2.1.length=x1.2.2.2.2.2.2.2.2.2.2.2.2.2.2.2.2.2.2.1.length then if x6.2.2.2.2.2.2.2.2.2.2.2.2.2.2.2.2.2.2.2.2.1.length=x1.2.2.2.2.2.2.2.2.2.2.2.2.2.2.2.2.2.2.2.2.1.length then if x6.2.2.2.2.2.2.2.2.2.2.2.2.2.2.2.2.2.2.2.2.2.1.length=x1.2.2.2.2.2.2.2.2.2.2.2.2.2.2.2.2.2.2.2.2.2.1.length then some (x6)else none else none else none else none else none else none
def mn:=kP jn (kO bi (kP lL (kO ef (kP DC k0))))
def FC:Xc vw:=mX prog 32 mn.1 BL [] [] []
theorem kC:aB prog 84 pG eR:=fn0 FC Tryz.func84 mn.2
def BM:aE vw:={rcut:=aw}
def pH:Sig vw:={params:=[.bp 100000 0,lU],objs:=[(100000, .box none [.bp 100001 0,Dq6,Dq1,Dq1,Dq1,Dq1,Dq6,Dq4,Dq4,Dq7, .vh 100002, .vh 100003,Dq1,Dq1,Dq8]),(100001, .box none [Dq3,Dq4,Dq1, .vh 100004,Dq1, .vh 100005,Dq1,Dq5]),(100002,Oq2),(100003,Oq2),(100004,Oq9),(100005,Oq2)],rcut:=aw,rvars:=[],keep:=[100000,100001,100002,3011,100004,100005]}
noncomputable def eS(v:Tq2):Option (Tq1):=bk v.2>>=λx1=>if x1.2.2.2.2.2.2.2.2.2.2.2.2.2.2.2.2.2.2.1.length=v.2.2.2.2.2.2.2.2.2.2.2.2.2.2.2.2.2.2.2.1.length then if x1.2.2.2.2.2.2.2.2.2.2.2.2.2.2.2.2.2.2.2.2.1.length=v.2.2.2.2.2.2.2.2.2.2.2.2.2.2.2.2.2.2.2.2.2.1.length then if x1.2.2.2.2.2.2.2.2.2.2.2.2.2.2.2.2.2.2.2.2.2.1.length=v.2.2.2.2.2.2.2.2.2.2.2.2.2.2.2.2.2.2.2.2.2.2.1.length then xj (x1.2.2.2.2.2.2.2.2.2.2.2.2.2.2.2.2.2.2.2.2.2.2.1.n==0,())>>=λx2=>bJ (x2.1,x1.1,x1.2.1,x1.2.2.1,x1.2.2.2.1,x1.2.2.2.2.1,x1.2.2.2.2.2.1,x1.2.2.2.2.2.2.1,x1.2.2.2.2.2.2.2.1,x1.2.2.2.2.2.2.2.2.1,x1.2.2.2.2.2.2.2.2.2.1,x1.2.2.2.2.2.2.2.2.2.2.1,x1.2.2.2.2.2.2.2.2.2.2.2.1,x1.2.2.2.2.2.2.2.2.2.2.2.2.1,x1.2.2.2.2.2.2.2.2.2.2.2.2.2.1,x1.2.2.2.2.2.2.2.2.2.2.2.2.2.2.1,x1.2.2.2.2.2.2.2.2.2.2.2.2.2.2.2.1,x1.2.2.2.2.2.2.2.2.2.2.2.2.2.2.2.2.1,x1.2.2.2.2.2.2.2.2.2.2.2.2.2.2.2.2.2.1,x1.2.2.2.2.2.2.2.2.2.2.2.2.2.2.2.2.2.2.1,x1.2.2.2.2.2.2.2.2.2.2.2.2.2.2.2.2.2.2.2.1,x1.2.2.2.2.2.2.2.2.2.2.2.2.2.2.2.2.2.2.2.2.1,x1.2.2.2.2.2.2.2.2.2.2.2.2.2.2.2.2.2.2.2.2.2.1,())>>=λx3=>if x3.2.2.2.2.2.2.2.2.2.2.2.2.2.2.2.2.2.2.1.length=x1.2.2.2.2.2.2.2.2.2.2.2.2.2.2.2.2.2.2.1.length then if x3.2.2.2.2.2.2.2.2.2.2.2.2.2.2.2.2.2.2.2.2.1.length=x1.2.2.2.2.2.2.2.2.2.2.2.2.2.2.2.2.2.2.2.2.1.length then if x3.2.2.2.2.2.2.2.2.2.2.2.2.2.2.2.2.2.2.2.2.2.1.length=x1.2.2.2.2.2.2.2.2.2.2.2.2.2.2.2.2.2.2.2.2.2.1.length then some (x3)else none else none else none else none else none else none
def mo:=kO bI (kO bi (kP qy k0))
def FD:Xc vw:=mX prog 11 mo.1 BM [] [] []
theorem kD:aB prog 85 pH eS:=fn0 FD Tryz.func85 mo.2
def Jq:Cut SN:=⟨[(4,Dq4),(5,Dq1)],[]⟩
def Mu:aE vw:={rcut:=Jq}
def KJ:Sig vw:=sg [wD,Dq1] Jq [.tmp 4, .tmp 5]
noncomputable def DE(v:bn×Int×Unit):Option (Bool×Int×Unit):=nr (v.1,())>>=λx1=>if(x1.1 !=0)=true then some (false,x1)else lj v>>=λx2=>some ((x2.1,(0:Int),()))
def ze:=kP hO (kP lM k0)
def PG:Xc vw:=mX prog 15 ze.1 Mu [] [] []
theorem DF:aB prog 131 KJ DE:=fn0 PG Tryz.func131 ze.2
def wS:Cut SN:=⟨[(0, .bp 100000 0),(3, .bp 3 0),(4,Dq1),(5,Dq1)],[(100000, .box none [.bp 100001 0,Dq6,Dq1,Dq1,Dq1,Dq1,Dq6,Dq4,Dq4,Dq7, .vh 100002, .vh 3011,Dq1,Dq1,Dq8]),(3, .st .myCodeT),(100001, .box none [Dq3,Dq4,Dq1, .vh 100004,Dq1, .vh 100005,Dq1,Dq5]),(100002,Oq2),(3011,Oq2),(100004,Oq9),(100005,Oq2)]⟩
def BN:aE vw:={rcut:=aw}
def pI:Sig vw:={params:=[.bp 100000 0,lU],objs:=[(100000, .box none [.bp 100001 0,Dq6,Dq1,Dq1,Dq1,Dq1,Dq6,Dq4,Dq4,Dq7, .vh 100002, .vh 100003,Dq1,Dq1,Dq8]),(100001, .box none [Dq3,Dq4,Dq1, .vh 100004,Dq1, .vh 100005,Dq1,Dq5]),(100002,Oq2),(100003,Oq2),(100004,Oq9),(100005,Oq2)],rcut:=aw,rvars:=[],keep:=[100000,100001,100002,3011,100004,100005]}
noncomputable def eT(v:Tq2):Option (Tq1):=bk v.2>>=λx1=>if x1.2.2.2.2.2.2.2.2.2.2.2.2.2.2.2.2.2.2.1.length=v.2.2.2.2.2.2.2.2.2.2.2.2.2.2.2.2.2.2.2.1.length then if x1.2.2.2.2.2.2.2.2.2.2.2.2.2.2.2.2.2.2.2.2.1.length=v.2.2.2.2.2.2.2.2.2.2.2.2.2.2.2.2.2.2.2.2.2.1.length then if x1.2.2.2.2.2.2.2.2.2.2.2.2.2.2.2.2.2.2.2.2.2.1.length=v.2.2.2.2.2.2.2.2.2.2.2.2.2.2.2.2.2.2.2.2.2.2.1.length then(rZ (v.1.type0,())>>=λx2=>DE (x2.1,x1.2.2.2.2.2.2.2.2.2.2.2.2.2.2.2.2.2.2.2.2.2.2.1.n,())>>=λx3=>if(!x3.1)=true then some ((x1.2.2.2.2.2.2.2.2.2.2.2.2.2.2.2.2.2.2.2.2.2.2.1.n,(3:Int),x1.1,x1.2.1,x1.2.2.1,x1.2.2.2.1,x1.2.2.2.2.1,x1.2.2.2.2.2.1,x1.2.2.2.2.2.2.1,x1.2.2.2.2.2.2.2.1,x1.2.2.2.2.2.2.2.2.1,x1.2.2.2.2.2.2.2.2.2.1,x1.2.2.2.2.2.2.2.2.2.2.1,x1.2.2.2.2.2.2.2.2.2.2.2.1,v.1,x1.2.2.2.2.2.2.2.2.2.2.2.2.1,x1.2.2.2.2.2.2.2.2.2.2.2.2.2.1,x1.2.2.2.2.2.2.2.2.2.2.2.2.2.2.1,x1.2.2.2.2.2.2.2.2.2.2.2.2.2.2.2.1,x1.2.2.2.2.2.2.2.2.2.2.2.2.2.2.2.2.1,x1.2.2.2.2.2.2.2.2.2.2.2.2.2.2.2.2.2.1,x1.2.2.2.2.2.2.2.2.2.2.2.2.2.2.2.2.2.2.1,x1.2.2.2.2.2.2.2.2.2.2.2.2.2.2.2.2.2.2.2.1,x1.2.2.2.2.2.2.2.2.2.2.2.2.2.2.2.2.2.2.2.2.1,x1.2.2.2.2.2.2.2.2.2.2.2.2.2.2.2.2.2.2.2.2.2.1,()))else some ((x1.2.2.2.2.2.2.2.2.2.2.2.2.2.2.2.2.2.2.2.2.2.2.1.n,(0:Int),x1.1,x1.2.1,x1.2.2.1,x1.2.2.2.1,x1.2.2.2.2.1,x1.2.2.2.2.2.1,x1.2.2.2.2.2.2.1,x1.2.2.2.2.2.2.2.1,x1.2.2.2.2.2.2.2.2.1,x1.2.2.2.2.2.2.2.2.2.1,x1.2.2.2.2.2.2.2.2.2.2.1,x1.2.2.2.2.2.2.2.2.2.2.2.1,v.1,x1.2.2.2.2.2.2.2.2.2.2.2.2.1,x1.2.2.2.2.2.2.2.2.2.2.2.2.2.1,x1.2.2.2.2.2.2.2.2.2.2.2.2.2.2.1,x1.2.2.2.2.2.2.2.2.2.2.2.2.2.2.2.1,x1.2.2.2.2.2.2.2.2.2.2.2.2.2.2.2.2.1,x1.2.2.2.2.2.2.2.2.2.2.2.2.2.2.2.2.2.1,x1.2.2.2.2.2.2.2.2.2.2.2.2.2.2.2.2.2.2.1,x1.2.2.2.2.2.2.2.2.2.2.2.2.2.2.2.2.2.2.2.1,x1.2.2.2.2.2.2.2.2.2.2.2.2.2.2.2.2.2.2.2.2.1,x1.2.2.2.2.2.2.2.2.2.2.2.2.2.2.2.2.2.2.2.2.2.1,())))>>=λx2=>nj (x2.2.2.2.2.2.2.2.2.2.2.2.2.2.2.1.type0,x2.1,())>>=λx3=>dF (x2.1,x3.1,x2.2.1,x2.2.2.1,x2.2.2.2.1,x2.2.2.2.2.1,x2.2.2.2.2.2.1,x2.2.2.2.2.2.2.1,x2.2.2.2.2.2.2.2.1,x2.2.2.2.2.2.2.2.2.1,x2.2.2.2.2.2.2.2.2.2.1,x2.2.2.2.2.2.2.2.2.2.2.1,x2.2.2.2.2.2.2.2.2.2.2.2.1,x2.2.2.2.2.2.2.2.2.2.2.2.2.1,x2.2.2.2.2.2.2.2.2.2.2.2.2.2.1,x2.2.2.2.2.2.2.2.2.2.2.2.2.2.2.2)>>=λx4=>if x4.2.2.2.2.2.2.2.2.2.2.2.2.2.2.2.2.2.2.1.length=x2.2.2.2.2.2.2.2.2.2.2.2.2.2.2.2.2.2.2.2.2.2.1.length then if x4.2.2.2.2.2.2.2.2.2.2.2.2.2.2.2.2.2.2.2.2.1.length=x2.2.2.2.2.2.2.2.2.2.2.2.2.2.2.2.2.2.2.2.2.2.2.2.1.length then if x4.2.2.2.2.2.2.2.2.2.2.2.2.2.2.2.2.2.2.2.2.2.1.length=x2.2.2.2.2.2.2.2.2.2.2.2.2.2.2.2.2.2.2.2.2.2.2.2.2.1.length then some (x4)else none else none else none else none else none else none
def mq:=kP jn (kO bi (kP lL (kO ef (kP DF k0))))
def FE:Xc vw:=mX prog 29 mq.1 BN [(6,wS,[.norm])] [] []
theorem kE:aB prog 86 pI eT:=fn0 FE Tryz.func86 mq.2
def BO:aE vw:={rcut:=aw}
def pJ:Sig vw:={params:=[.bp 100000 0,lU],objs:=[(100000, .box none [.bp 100001 0,Dq6,Dq1,Dq1,Dq1,Dq1,Dq6,Dq4,Dq4,Dq7, .vh 100002, .vh 100003,Dq1,Dq1,Dq8]),(100001, .box none [Dq3,Dq4,Dq1, .vh 100004,Dq1, .vh 100005,Dq1,Dq5]),(100002,Oq2),(100003,Oq2),(100004,Oq9),(100005,Oq2)],rcut:=aw,rvars:=[],keep:=[100000,100001,100002,3011,100004,100005]}
noncomputable def eU(v:Tq2):Option (Tq1):=bk v.2>>=λx1=>if x1.2.2.2.2.2.2.2.2.2.2.2.2.2.2.2.2.2.2.1.length=v.2.2.2.2.2.2.2.2.2.2.2.2.2.2.2.2.2.2.2.1.length then if x1.2.2.2.2.2.2.2.2.2.2.2.2.2.2.2.2.2.2.2.2.1.length=v.2.2.2.2.2.2.2.2.2.2.2.2.2.2.2.2.2.2.2.2.2.1.length then if x1.2.2.2.2.2.2.2.2.2.2.2.2.2.2.2.2.2.2.2.2.2.1.length=v.2.2.2.2.2.2.2.2.2.2.2.2.2.2.2.2.2.2.2.2.2.2.1.length then nj (v.1.type0,x1.2.2.2.2.2.2.2.2.2.2.2.2.2.2.2.2.2.2.2.2.2.2.1.n,())>>=λx2=>qw x2>>=λx3=>bJ (x3.1,x1.1,x1.2.1,x1.2.2.1,x1.2.2.2.1,x1.2.2.2.2.1,x1.2.2.2.2.2.1,x1.2.2.2.2.2.2.1,x1.2.2.2.2.2.2.2.1,x1.2.2.2.2.2.2.2.2.1,x1.2.2.2.2.2.2.2.2.2.1,x1.2.2.2.2.2.2.2.2.2.2.1,x1.2.2.2.2.2.2.2.2.2.2.2.1,x1.2.2.2.2.2.2.2.2.2.2.2.2.1,x1.2.2.2.2.2.2.2.2.2.2.2.2.2.1,x1.2.2.2.2.2.2.2.2.2.2.2.2.2.2.1,x1.2.2.2.2.2.2.2.2.2.2.2.2.2.2.2.1,x1.2.2.2.2.2.2.2.2.2.2.2.2.2.2.2.2.1,x1.2.2.2.2.2.2.2.2.2.2.2.2.2.2.2.2.2.1,x1.2.2.2.2.2.2.2.2.2.2.2.2.2.2.2.2.2.2.1,x1.2.2.2.2.2.2.2.2.2.2.2.2.2.2.2.2.2.2.2.1,x1.2.2.2.2.2.2.2.2.2.2.2.2.2.2.2.2.2.2.2.2.1,x1.2.2.2.2.2.2.2.2.2.2.2.2.2.2.2.2.2.2.2.2.2.1,())>>=λx4=>if x4.2.2.2.2.2.2.2.2.2.2.2.2.2.2.2.2.2.2.1.length=x1.2.2.2.2.2.2.2.2.2.2.2.2.2.2.2.2.2.2.1.length then if x4.2.2.2.2.2.2.2.2.2.2.2.2.2.2.2.2.2.2.2.2.1.length=x1.2.2.2.2.2.2.2.2.2.2.2.2.2.2.2.2.2.2.2.2.1.length then if x4.2.2.2.2.2.2.2.2.2.2.2.2.2.2.2.2.2.2.2.2.2.1.length=x1.2.2.2.2.2.2.2.2.2.2.2.2.2.2.2.2.2.2.2.2.2.1.length then some (x4)else none else none else none else none else none else none
def mr:=kO bI (kP jm (kP jn (kO bi k0)))
def FF:Xc vw:=mX prog 13 mr.1 BO [] [] []
theorem kG:aB prog 87 pJ eU:=fn0 FF Tryz.func87 mr.2
def wT:Cut SN:=⟨[(0, .bp 100000 0),(4, .bp 4 0),(5,Dq1)],[(100000, .box none [.bp 100001 0,Dq6,Dq1,Dq1,Dq1,Dq1,Dq6,Dq4,Dq4,Dq7, .vh 100002, .vh 3011,Dq1,Dq1,Dq8]),(4, .st .myValueT),(100001, .box none [Dq3,Dq4,Dq1, .vh 100004,Dq1, .vh 100005,Dq1,Dq5]),(100002,Oq2),(3011,Oq2),(100004,Oq9),(100005,Oq2)]⟩
def BP:aE vw:={rcut:=aw}
def pK:Sig vw:={params:=[.bp 100000 0,lU],objs:=[(100000, .box none [.bp 100001 0,Dq6,Dq1,Dq1,Dq1,Dq1,Dq6,Dq4,Dq4,Dq7, .vh 100002, .vh 100003,Dq1,Dq1,Dq8]),(100001, .box none [Dq3,Dq4,Dq1, .vh 100004,Dq1, .vh 100005,Dq1,Dq5]),(100002,Oq2),(100003,Oq2),(100004,Oq9),(100005,Oq2)],rcut:=aw,rvars:=[],keep:=[100000,100001,100002,3011,100004,100005]}
noncomputable def eV(v:Tq2):Option (Tq1):=bk v.2>>=λx1=>if x1.2.2.2.2.2.2.2.2.2.2.2.2.2.2.2.2.2.2.1.length=v.2.2.2.2.2.2.2.2.2.2.2.2.2.2.2.2.2.2.2.1.length then if x1.2.2.2.2.2.2.2.2.2.2.2.2.2.2.2.2.2.2.2.2.1.length=v.2.2.2.2.2.2.2.2.2.2.2.2.2.2.2.2.2.2.2.2.2.1.length then if x1.2.2.2.2.2.2.2.2.2.2.2.2.2.2.2.2.2.2.2.2.2.1.length=v.2.2.2.2.2.2.2.2.2.2.2.2.2.2.2.2.2.2.2.2.2.2.1.length then(if x1.2.2.2.2.2.2.2.2.2.2.2.2.2.2.2.2.2.2.2.2.2.2.1.null=true then some (((4:Int),x1.1,x1.2.1,x1.2.2.1,x1.2.2.2.1,x1.2.2.2.2.1,x1.2.2.2.2.2.1,x1.2.2.2.2.2.2.1,x1.2.2.2.2.2.2.2.1,x1.2.2.2.2.2.2.2.2.1,x1.2.2.2.2.2.2.2.2.2.1,x1.2.2.2.2.2.2.2.2.2.2.1,x1.2.2.2.2.2.2.2.2.2.2.2.1,x1.2.2.2.2.2.2.2.2.2.2.2.2.2.2.2.2.2.2.2.2.2.2.1,x1.2.2.2.2.2.2.2.2.2.2.2.2.1,x1.2.2.2.2.2.2.2.2.2.2.2.2.2.1,x1.2.2.2.2.2.2.2.2.2.2.2.2.2.2.1,x1.2.2.2.2.2.2.2.2.2.2.2.2.2.2.2.1,x1.2.2.2.2.2.2.2.2.2.2.2.2.2.2.2.2.1,x1.2.2.2.2.2.2.2.2.2.2.2.2.2.2.2.2.2.1,x1.2.2.2.2.2.2.2.2.2.2.2.2.2.2.2.2.2.2.1,x1.2.2.2.2.2.2.2.2.2.2.2.2.2.2.2.2.2.2.2.1,x1.2.2.2.2.2.2.2.2.2.2.2.2.2.2.2.2.2.2.2.2.1,x1.2.2.2.2.2.2.2.2.2.2.2.2.2.2.2.2.2.2.2.2.2.1,()))else some (((0:Int),x1.1,x1.2.1,x1.2.2.1,x1.2.2.2.1,x1.2.2.2.2.1,x1.2.2.2.2.2.1,x1.2.2.2.2.2.2.1,x1.2.2.2.2.2.2.2.1,x1.2.2.2.2.2.2.2.2.1,x1.2.2.2.2.2.2.2.2.2.1,x1.2.2.2.2.2.2.2.2.2.2.1,x1.2.2.2.2.2.2.2.2.2.2.2.1,x1.2.2.2.2.2.2.2.2.2.2.2.2.2.2.2.2.2.2.2.2.2.2.1,x1.2.2.2.2.2.2.2.2.2.2.2.2.1,x1.2.2.2.2.2.2.2.2.2.2.2.2.2.1,x1.2.2.2.2.2.2.2.2.2.2.2.2.2.2.1,x1.2.2.2.2.2.2.2.2.2.2.2.2.2.2.2.1,x1.2.2.2.2.2.2.2.2.2.2.2.2.2.2.2.2.1,x1.2.2.2.2.2.2.2.2.2.2.2.2.2.2.2.2.2.1,x1.2.2.2.2.2.2.2.2.2.2.2.2.2.2.2.2.2.2.1,x1.2.2.2.2.2.2.2.2.2.2.2.2.2.2.2.2.2.2.2.1,x1.2.2.2.2.2.2.2.2.2.2.2.2.2.2.2.2.2.2.2.2.1,x1.2.2.2.2.2.2.2.2.2.2.2.2.2.2.2.2.2.2.2.2.2.1,())))>>=λx2=>dF (x2.2.2.2.2.2.2.2.2.2.2.2.2.2.1.n,x2.2.2.2.2.2.2.2.2.2.2.2.2.2.1.n,x2.1,x2.2.1,x2.2.2.1,x2.2.2.2.1,x2.2.2.2.2.1,x2.2.2.2.2.2.1,x2.2.2.2.2.2.2.1,x2.2.2.2.2.2.2.2.1,x2.2.2.2.2.2.2.2.2.1,x2.2.2.2.2.2.2.2.2.2.1,x2.2.2.2.2.2.2.2.2.2.2.1,x2.2.2.2.2.2.2.2.2.2.2.2.1,x2.2.2.2.2.2.2.2.2.2.2.2.2.1,x2.2.2.2.2.2.2.2.2.2.2.2.2.2.2)>>=λx3=>if x3.2.2.2.2.2.2.2.2.2.2.2.2.2.2.2.2.2.2.1.length=x2.2.2.2.2.2.2.2.2.2.2.2.2.2.2.2.2.2.2.2.2.1.length then if x3.2.2.2.2.2.2.2.2.2.2.2.2.2.2.2.2.2.2.2.2.1.length=x2.2.2.2.2.2.2.2.2.2.2.2.2.2.2.2.2.2.2.2.2.2.2.1.length then if x3.2.2.2.2.2.2.2.2.2.2.2.2.2.2.2.2.2.2.2.2.2.1.length=x2.2.2.2.2.2.2.2.2.2.2.2.2.2.2.2.2.2.2.2.2.2.2.2.1.length then some (x3)else none else none else none else none else none else none
def mu:=kO bi (kO ef k0)
def FG:Xc vw:=mX prog 17 mu.1 BP [(5,wT,[.norm])] [] []
theorem kH:aB prog 88 pK eV:=fn0 FG Tryz.func88 mu.2
def oI:Cut SN:=⟨[(0, .bp 100000 0),(2, .bp 2 0)],[(100000, .box none [.bp 100001 0,Dq6,Dq1,Dq1,Dq1,Dq1,Dq6,Dq4,Dq4,Dq7, .vh 100002, .vh 100003,Dq1,Dq1,Dq8]),(100001, .box none [Dq3,Dq4,Dq1, .vh 100004,Dq1, .vh 100005,Dq1,Dq5]),(100002,Oq2),(100003,Oq2),(100004,Oq9),(100005,Oq2),(2, .st .myValueT)]⟩
def xW:aE vw:={rcut:=oI}
def uF:Sig vw:={params:=[.bp 100000 0],objs:=[(100000, .box none [.bp 100001 0,Dq6,Dq1,Dq1,Dq1,Dq1,Dq6,Dq4,Dq4,Dq7, .vh 100002, .vh 100003,Dq1,Dq1,Dq8]),(100001, .box none [Dq3,Dq4,Dq1, .vh 100004,Dq1, .vh 100005,Dq1,Dq5]),(100002,Oq2),(100003,Oq2),(100004,Oq9),(100005,Oq2)],rcut:=oI,rvars:=[.cell 2 31],keep:=[100000,100001,100002,100003,100004,100005]}
noncomputable def fK(v:Tq1):Option (Tq7):=if 0<=i64.wrap ((↑v.2.2.2.2.2.2.2.2.2.2.2.2.2.2.2.2.2.2.2.1.length:Int) -1)/\i64.wrap ((↑v.2.2.2.2.2.2.2.2.2.2.2.2.2.2.2.2.2.2.2.1.length:Int) -1)<(↑v.2.2.2.2.2.2.2.2.2.2.2.2.2.2.2.2.2.2.2.1.length:Int)then v.2.2.2.2.2.2.2.2.2.2.2.2.2.2.2.2.2.2.2.1[(i64.wrap ((↑v.2.2.2.2.2.2.2.2.2.2.2.2.2.2.2.2.2.2.2.1.length:Int) -1)).toNat]?>>=λx1=>some ((v.1,v.2.1,v.2.2.1,v.2.2.2.1,v.2.2.2.2.1,v.2.2.2.2.2.1,v.2.2.2.2.2.2.1,v.2.2.2.2.2.2.2.1,v.2.2.2.2.2.2.2.2.1,v.2.2.2.2.2.2.2.2.2.1,v.2.2.2.2.2.2.2.2.2.2.1,v.2.2.2.2.2.2.2.2.2.2.2.1,v.2.2.2.2.2.2.2.2.2.2.2.2.1,v.2.2.2.2.2.2.2.2.2.2.2.2.2.1,v.2.2.2.2.2.2.2.2.2.2.2.2.2.2.1,v.2.2.2.2.2.2.2.2.2.2.2.2.2.2.2.1,v.2.2.2.2.2.2.2.2.2.2.2.2.2.2.2.2.1,v.2.2.2.2.2.2.2.2.2.2.2.2.2.2.2.2.2.1,v.2.2.2.2.2.2.2.2.2.2.2.2.2.2.2.2.2.2.1,v.2.2.2.2.2.2.2.2.2.2.2.2.2.2.2.2.2.2.2.1,v.2.2.2.2.2.2.2.2.2.2.2.2.2.2.2.2.2.2.2.2.1,v.2.2.2.2.2.2.2.2.2.2.2.2.2.2.2.2.2.2.2.2.2.1,x1,()))else none
def Cx:Xc vw:=mX prog 15 c0 xW [] [] []
theorem jo:aB prog 132 uF fK:=fn0 Cx Tryz.func132 bG
def BQ:aE vw:={rcut:=aw}
def pL:Sig vw:={params:=[.bp 100000 0,lU],objs:=[(100000, .box none [.bp 100001 0,Dq6,Dq1,Dq1,Dq1,Dq1,Dq6,Dq4,Dq4,Dq7, .vh 100002, .vh 100003,Dq1,Dq1,Dq8]),(100001, .box none [Dq3,Dq4,Dq1, .vh 100004,Dq1, .vh 100005,Dq1,Dq5]),(100002,Oq2),(100003,Oq2),(100004,Oq9),(100005,Oq2)],rcut:=aw,rvars:=[],keep:=[100000,100001,100002,3011,100004,100005]}
noncomputable def eW(v:Tq2):Option (Tq1):=fK v.2>>=λx1=>if x1.2.2.2.2.2.2.2.2.2.2.2.2.2.2.2.2.2.2.1.length=v.2.2.2.2.2.2.2.2.2.2.2.2.2.2.2.2.2.2.2.1.length then if x1.2.2.2.2.2.2.2.2.2.2.2.2.2.2.2.2.2.2.2.1.length=v.2.2.2.2.2.2.2.2.2.2.2.2.2.2.2.2.2.2.2.2.1.length then if x1.2.2.2.2.2.2.2.2.2.2.2.2.2.2.2.2.2.2.2.2.1.length=v.2.2.2.2.2.2.2.2.2.2.2.2.2.2.2.2.2.2.2.2.2.1.length then if x1.2.2.2.2.2.2.2.2.2.2.2.2.2.2.2.2.2.2.2.2.2.1.length=v.2.2.2.2.2.2.2.2.2.2.2.2.2.2.2.2.2.2.2.2.2.2.1.length then if x1.2.2.2.2.2.2.2.2.2.2.2.2.2.2.2.2.2.2.2.2.2.2.1.null=true then bk (x1.1,x1.2.1,x1.2.2.1,x1.2.2.2.1,x1.2.2.2.2.1,x1.2.2.2.2.2.1,x1.2.2.2.2.2.2.1,x1.2.2.2.2.2.2.2.1,x1.2.2.2.2.2.2.2.2.1,x1.2.2.2.2.2.2.2.2.2.1,x1.2.2.2.2.2.2.2.2.2.2.1,x1.2.2.2.2.2.2.2.2.2.2.2.1,x1.2.2.2.2.2.2.2.2.2.2.2.2.1,x1.2.2.2.2.2.2.2.2.2.2.2.2.2.1,x1.2.2.2.2.2.2.2.2.2.2.2.2.2.2.1,x1.2.2.2.2.2.2.2.2.2.2.2.2.2.2.2.1,x1.2.2.2.2.2.2.2.2.2.2.2.2.2.2.2.2.1,x1.2.2.2.2.2.2.2.2.2.2.2.2.2.2.2.2.2.1,x1.2.2.2.2.2.2.2.2.2.2.2.2.2.2.2.2.2.2.1,x1.2.2.2.2.2.2.2.2.2.2.2.2.2.2.2.2.2.2.2.1,x1.2.2.2.2.2.2.2.2.2.2.2.2.2.2.2.2.2.2.2.2.1,x1.2.2.2.2.2.2.2.2.2.2.2.2.2.2.2.2.2.2.2.2.2.1,())>>=λx2=>if x2.2.2.2.2.2.2.2.2.2.2.2.2.2.2.2.2.2.2.1.length=x1.2.2.2.2.2.2.2.2.2.2.2.2.2.2.2.2.2.2.1.length then if x2.2.2.2.2.2.2.2.2.2.2.2.2.2.2.2.2.2.2.2.2.1.length=x1.2.2.2.2.2.2.2.2.2.2.2.2.2.2.2.2.2.2.2.2.1.length then if x2.2.2.2.2.2.2.2.2.2.2.2.2.2.2.2.2.2.2.2.2.2.1.length=x1.2.2.2.2.2.2.2.2.2.2.2.2.2.2.2.2.2.2.2.2.2.1.length then some ((x2.1,x2.2.1,x2.2.2.1,x2.2.2.2.1,x2.2.2.2.2.1,x2.2.2.2.2.2.1,x2.2.2.2.2.2.2.1,x2.2.2.2.2.2.2.2.1,x2.2.2.2.2.2.2.2.2.1,x2.2.2.2.2.2.2.2.2.2.1,v.1.a,x2.2.2.2.2.2.2.2.2.2.2.2.1,x2.2.2.2.2.2.2.2.2.2.2.2.2.1,x2.2.2.2.2.2.2.2.2.2.2.2.2.2.1,x2.2.2.2.2.2.2.2.2.2.2.2.2.2.2.1,x2.2.2.2.2.2.2.2.2.2.2.2.2.2.2.2.1,x2.2.2.2.2.2.2.2.2.2.2.2.2.2.2.2.2.1,x2.2.2.2.2.2.2.2.2.2.2.2.2.2.2.2.2.2.1,x2.2.2.2.2.2.2.2.2.2.2.2.2.2.2.2.2.2.2.1,x2.2.2.2.2.2.2.2.2.2.2.2.2.2.2.2.2.2.2.2.1,x2.2.2.2.2.2.2.2.2.2.2.2.2.2.2.2.2.2.2.2.2.1,x2.2.2.2.2.2.2.2.2.2.2.2.2.2.2.2.2.2.2.2.2.2.1,()))else none else none else none else some ((x1.1,x1.2.1,x1.2.2.1,x1.2.2.2.1,x1.2.2.2.2.1,x1.2.2.2.2.2.1,x1.2.2.2.2.2.2.1,x1.2.2.2.2.2.2.2.1,x1.2.2.2.2.2.2.2.2.1,x1.2.2.2.2.2.2.2.2.2.1,x1.2.2.2.2.2.2.2.2.2.2.1,x1.2.2.2.2.2.2.2.2.2.2.2.1,x1.2.2.2.2.2.2.2.2.2.2.2.2.1,x1.2.2.2.2.2.2.2.2.2.2.2.2.2.1,x1.2.2.2.2.2.2.2.2.2.2.2.2.2.2.1,x1.2.2.2.2.2.2.2.2.2.2.2.2.2.2.2.1,x1.2.2.2.2.2.2.2.2.2.2.2.2.2.2.2.2.1,x1.2.2.2.2.2.2.2.2.2.2.2.2.2.2.2.2.2.1,x1.2.2.2.2.2.2.2.2.2.2.2.2.2.2.2.2.2.2.1,x1.2.2.2.2.2.2.2.2.2.2.2.2.2.2.2.2.2.2.2.1,x1.2.2.2.2.2.2.2.2.2.2.2.2.2.2.2.2.2.2.2.2.1,x1.2.2.2.2.2.2.2.2.2.2.2.2.2.2.2.2.2.2.2.2.2.1,()))else none else none else none else none
def mv:=kO bi (kO jo k0)
def FH:Xc vw:=mX prog 14 mv.1 BQ [] [] []
theorem kI:aB prog 89 pL eW:=fn0 FH Tryz.func89 mv.2
def db:Cut SN:=⟨[(0, .bp 100000 0)],[(100000, .box none [.bp 100001 0,Dq6,Dq1,Dq1,Dq1,Dq1,Dq6,Dq4,Dq4,Dq7, .vh 100002, .vh 100003,Dq1,Dq1,Dq8]),(100001, .box none [Dq3,Dq4,Dq1, .vh 100004,Dq1, .vh 100005,Dq1,Dq5]),(100002,Oq2),(100003,Oq2),(100004,Oq9),(100005,Oq2)]⟩
def xX:aE vw:={rcut:=db}
def uG:Sig vw:={params:=[.bp 100000 0,Dq4,Dq1],objs:=[(100000, .box none [.bp 100001 0,Dq6,Dq1,Dq1,Dq1,Dq1,Dq6,Dq4,Dq4,Dq7, .vh 100002, .vh 100003,Dq1,Dq1,Dq8]),(100001, .box none [Dq3,Dq4,Dq1, .vh 100004,Dq1, .vh 100005,Dq1,Dq5]),(100002,Oq2),(100003,Oq2),(100004,Oq9),(100005,Oq2)],rcut:=db,rvars:=[],keep:=[100000,100001,100002,100003,100004,100005]}
noncomputable def fL(v:Bool×Int×ByteArray×Int×Int×Int×Int×ByteArray×Bool×Bool×(List au)×Int×Int×(Option ah)×(List af)×Bool×Int×Int×Int×(Option aT)×(List ah)×(List ah)×(List Int)×(List ah)×Unit):Option (Tq1):=if v.1=true then some (v.2.2.1,v.2.2.2.1,v.2.2.2.2.1,v.2.2.2.2.2.1,v.2.2.2.2.2.2.1,v.2.2.2.2.2.2.2.1,v.2.2.2.2.2.2.2.2.1,v.2.2.2.2.2.2.2.2.2.1,v.2.2.2.2.2.2.2.2.2.2.1,v.2.2.2.2.2.2.2.2.2.2.2.1,v.2.1,v.2.2.2.2.2.2.2.2.2.2.2.2.2)else some (v.2.2)
def Cy:Xc vw:=mX prog 11 c0 xX [] [] []
theorem jp:aB prog 133 uG fL:=fn0 Cy Tryz.func133 bG
def BR:aE vw:={rcut:=db}
def pM:Sig vw:={params:=[.bp 100000 0,lU],objs:=[(100000, .box none [.bp 100001 0,Dq6,Dq1,Dq1,Dq1,Dq1,Dq6,Dq4,Dq4,Dq7, .vh 100002, .vh 100003,Dq1,Dq1,Dq8]),(100001, .box none [Dq3,Dq4,Dq1, .vh 100004,Dq1, .vh 100005,Dq1,Dq5]),(100002,Oq2),(100003,Oq2),(100004,Oq9),(100005,Oq2)],rcut:=db,rvars:=[],keep:=[100000,100001,100002,100003,100004,100005]}
noncomputable def eX(v:Tq2):Option (Tq1):=fK v.2>>=λx1=>if x1.2.2.2.2.2.2.2.2.2.2.2.2.2.2.2.2.2.2.1.length=v.2.2.2.2.2.2.2.2.2.2.2.2.2.2.2.2.2.2.2.1.length then if x1.2.2.2.2.2.2.2.2.2.2.2.2.2.2.2.2.2.2.2.1.length=v.2.2.2.2.2.2.2.2.2.2.2.2.2.2.2.2.2.2.2.2.1.length then if x1.2.2.2.2.2.2.2.2.2.2.2.2.2.2.2.2.2.2.2.2.1.length=v.2.2.2.2.2.2.2.2.2.2.2.2.2.2.2.2.2.2.2.2.2.1.length then if x1.2.2.2.2.2.2.2.2.2.2.2.2.2.2.2.2.2.2.2.2.2.1.length=v.2.2.2.2.2.2.2.2.2.2.2.2.2.2.2.2.2.2.2.2.2.2.1.length then fL (!x1.2.2.2.2.2.2.2.2.2.2.2.2.2.2.2.2.2.2.2.2.2.2.1.err.toList==(Qa #[]).toList,v.1.a,x1.1,x1.2.1,x1.2.2.1,x1.2.2.2.1,x1.2.2.2.2.1,x1.2.2.2.2.2.1,x1.2.2.2.2.2.2.1,x1.2.2.2.2.2.2.2.1,x1.2.2.2.2.2.2.2.2.1,x1.2.2.2.2.2.2.2.2.2.1,x1.2.2.2.2.2.2.2.2.2.2.1,x1.2.2.2.2.2.2.2.2.2.2.2.1,x1.2.2.2.2.2.2.2.2.2.2.2.2.1,x1.2.2.2.2.2.2.2.2.2.2.2.2.2.1,x1.2.2.2.2.2.2.2.2.2.2.2.2.2.2.1,x1.2.2.2.2.2.2.2.2.2.2.2.2.2.2.2.1,x1.2.2.2.2.2.2.2.2.2.2.2.2.2.2.2.2.1,x1.2.2.2.2.2.2.2.2.2.2.2.2.2.2.2.2.2.1,x1.2.2.2.2.2.2.2.2.2.2.2.2.2.2.2.2.2.2.1,x1.2.2.2.2.2.2.2.2.2.2.2.2.2.2.2.2.2.2.2.1,x1.2.2.2.2.2.2.2.2.2.2.2.2.2.2.2.2.2.2.2.2.1,x1.2.2.2.2.2.2.2.2.2.2.2.2.2.2.2.2.2.2.2.2.2.1,())>>=λx2=>if x2.2.2.2.2.2.2.2.2.2.2.2.2.2.2.2.2.2.2.1.length=x1.2.2.2.2.2.2.2.2.2.2.2.2.2.2.2.2.2.2.1.length then if x2.2.2.2.2.2.2.2.2.2.2.2.2.2.2.2.2.2.2.2.1.length=x1.2.2.2.2.2.2.2.2.2.2.2.2.2.2.2.2.2.2.2.1.length then if x2.2.2.2.2.2.2.2.2.2.2.2.2.2.2.2.2.2.2.2.2.1.length=x1.2.2.2.2.2.2.2.2.2.2.2.2.2.2.2.2.2.2.2.2.1.length then if x2.2.2.2.2.2.2.2.2.2.2.2.2.2.2.2.2.2.2.2.2.2.1.length=x1.2.2.2.2.2.2.2.2.2.2.2.2.2.2.2.2.2.2.2.2.2.1.length then some (x2)else none else none else none else none else none else none else none else none
def mw:=kO jo (kO jp k0)
def FI:Xc vw:=mX prog 12 mw.1 BR [] [] []
theorem kJ:aB prog 90 pM eX:=fn0 FI Tryz.func90 mw.2
def BS:aE vw:={rcut:=db}
def pN:Sig vw:={params:=[.bp 100000 0,lU],objs:=[(100000, .box none [.bp 100001 0,Dq6,Dq1,Dq1,Dq1,Dq1,Dq6,Dq4,Dq4,Dq7, .vh 100002, .vh 100003,Dq1,Dq1,Dq8]),(100001, .box none [Dq3,Dq4,Dq1, .vh 100004,Dq1, .vh 100005,Dq1,Dq5]),(100002,Oq2),(100003,Oq2),(100004,Oq9),(100005,Oq2)],rcut:=db,rvars:=[],keep:=[100000,100001,100002,100003,100004,100005]}
noncomputable def eY(v:Tq2):Option (Tq1):=some (v.2.1,v.2.2.1,v.2.2.2.1,v.2.2.2.2.1,v.2.2.2.2.2.1,v.2.2.2.2.2.2.1,v.2.2.2.2.2.2.2.1,v.2.2.2.2.2.2.2.2.1,v.2.2.2.2.2.2.2.2.2.1,v.2.2.2.2.2.2.2.2.2.2.1,v.1.a,v.2.2.2.2.2.2.2.2.2.2.2.2)
def FJ:Xc vw:=mX prog 9 c0 BS [] [] []
theorem kK:aB prog 91 pN eY:=fn0 FJ Tryz.func91 bG
def BT:aE vw:={rcut:=aw}
def pO:Sig vw:={params:=[.bp 100000 0,lU],objs:=[(100000, .box none [.bp 100001 0,Dq6,Dq1,Dq1,Dq1,Dq1,Dq6,Dq4,Dq4,Dq7, .vh 100002, .vh 100003,Dq1,Dq1,Dq8]),(100001, .box none [Dq3,Dq4,Dq1, .vh 100004,Dq1, .vh 100005,Dq1,Dq5]),(100002,Oq2),(100003,Oq2),(100004,Oq9),(100005,Oq2)],rcut:=aw,rvars:=[],keep:=[100000,100001,100002,3011,100004,100005]}
noncomputable def eZ(v:Tq2):Option (Tq1):=bk v.2>>=λx1=>if x1.2.2.2.2.2.2.2.2.2.2.2.2.2.2.2.2.2.2.1.length=v.2.2.2.2.2.2.2.2.2.2.2.2.2.2.2.2.2.2.2.1.length then if x1.2.2.2.2.2.2.2.2.2.2.2.2.2.2.2.2.2.2.2.2.1.length=v.2.2.2.2.2.2.2.2.2.2.2.2.2.2.2.2.2.2.2.2.2.1.length then if x1.2.2.2.2.2.2.2.2.2.2.2.2.2.2.2.2.2.2.2.2.2.1.length=v.2.2.2.2.2.2.2.2.2.2.2.2.2.2.2.2.2.2.2.2.2.2.1.length then fL (x1.2.2.2.2.2.2.2.2.2.2.2.2.2.2.2.2.2.2.2.2.2.2.1.n==0,v.1.a,x1.1,x1.2.1,x1.2.2.1,x1.2.2.2.1,x1.2.2.2.2.1,x1.2.2.2.2.2.1,x1.2.2.2.2.2.2.1,x1.2.2.2.2.2.2.2.1,x1.2.2.2.2.2.2.2.2.1,x1.2.2.2.2.2.2.2.2.2.1,x1.2.2.2.2.2.2.2.2.2.2.1,x1.2.2.2.2.2.2.2.2.2.2.2.1,x1.2.2.2.2.2.2.2.2.2.2.2.2.1,x1.2.2.2.2.2.2.2.2.2.2.2.2.2.1,x1.2.2.2.2.2.2.2.2.2.2.2.2.2.2.1,x1.2.2.2.2.2.2.2.2.2.2.2.2.2.2.2.1,x1.2.2.2.2.2.2.2.2.2.2.2.2.2.2.2.2.1,x1.2.2.2.2.2.2.2.2.2.2.2.2.2.2.2.2.2.1,x1.2.2.2.2.2.2.2.2.2.2.2.2.2.2.2.2.2.2.1,x1.2.2.2.2.2.2.2.2.2.2.2.2.2.2.2.2.2.2.2.1,x1.2.2.2.2.2.2.2.2.2.2.2.2.2.2.2.2.2.2.2.2.1,x1.2.2.2.2.2.2.2.2.2.2.2.2.2.2.2.2.2.2.2.2.2.1,())>>=λx2=>if x2.2.2.2.2.2.2.2.2.2.2.2.2.2.2.2.2.2.2.1.length=x1.2.2.2.2.2.2.2.2.2.2.2.2.2.2.2.2.2.2.1.length then if x2.2.2.2.2.2.2.2.2.2.2.2.2.2.2.2.2.2.2.2.1.length=x1.2.2.2.2.2.2.2.2.2.2.2.2.2.2.2.2.2.2.2.1.length then if x2.2.2.2.2.2.2.2.2.2.2.2.2.2.2.2.2.2.2.2.2.1.length=x1.2.2.2.2.2.2.2.2.2.2.2.2.2.2.2.2.2.2.2.2.1.length then if x2.2.2.2.2.2.2.2.2.2.2.2.2.2.2.2.2.2.2.2.2.2.1.length=x1.2.2.2.2.2.2.2.2.2.2.2.2.2.2.2.2.2.2.2.2.2.1.length then some (x2)else none else none else none else none else none else none else none
def my:=kO bi (kO jp k0)
def FK:Xc vw:=mX prog 12 my.1 BT [] [] []
theorem kL:aB prog 92 pO eZ:=fn0 FK Tryz.func92 my.2
def BV:aE vw:={rcut:=aw}
def xG:Nat->Bool:=λk=>match k with|7000004=>true|_=>false
def pP:Sig vw:={params:=[.bp 100000 0,lU],objs:=[(100000, .box none [.bp 100001 0,Dq6,Dq1,Dq1,Dq1,Dq1,Dq6,Dq4,Dq4,Dq7, .vh 100002, .vh 100003,Dq1,Dq1,Dq8]),(100001, .box none [Dq3,Dq4,Dq1, .vh 100004,Dq1, .vh 100005,Dq1,Dq5]),(100002,Oq2),(100003,Oq2),(100004,Oq9),(100005,Oq2)],rcut:=aw,rvars:=[],keep:=[100000,100001,100002,3011,100004,100005]}
noncomputable def e_(v:Tq2):Option (Tq1):=bk v.2>>=λx1=>if x1.2.2.2.2.2.2.2.2.2.2.2.2.2.2.2.2.2.2.1.length=v.2.2.2.2.2.2.2.2.2.2.2.2.2.2.2.2.2.2.2.1.length then if x1.2.2.2.2.2.2.2.2.2.2.2.2.2.2.2.2.2.2.2.2.1.length=v.2.2.2.2.2.2.2.2.2.2.2.2.2.2.2.2.2.2.2.2.2.1.length then if x1.2.2.2.2.2.2.2.2.2.2.2.2.2.2.2.2.2.2.2.2.2.1.length=v.2.2.2.2.2.2.2.2.2.2.2.2.2.2.2.2.2.2.2.2.2.2.1.length then some ((x1.1,x1.2.1,x1.2.2.1,x1.2.2.2.1,x1.2.2.2.2.1,x1.2.2.2.2.2.1,x1.2.2.2.2.2.2.1,x1.2.2.2.2.2.2.2.1,x1.2.2.2.2.2.2.2.2.1,x1.2.2.2.2.2.2.2.2.2.1,x1.2.2.2.2.2.2.2.2.2.2.1,some x1.2.2.2.2.2.2.2.2.2.2.2.2.2.2.2.2.2.2.2.2.2.2.1,x1.2.2.2.2.2.2.2.2.2.2.2.2.1,x1.2.2.2.2.2.2.2.2.2.2.2.2.2.1,x1.2.2.2.2.2.2.2.2.2.2.2.2.2.2.1,x1.2.2.2.2.2.2.2.2.2.2.2.2.2.2.2.1,x1.2.2.2.2.2.2.2.2.2.2.2.2.2.2.2.2.1,x1.2.2.2.2.2.2.2.2.2.2.2.2.2.2.2.2.2.1,x1.2.2.2.2.2.2.2.2.2.2.2.2.2.2.2.2.2.2.1,x1.2.2.2.2.2.2.2.2.2.2.2.2.2.2.2.2.2.2.2.1,x1.2.2.2.2.2.2.2.2.2.2.2.2.2.2.2.2.2.2.2.2.1,x1.2.2.2.2.2.2.2.2.2.2.2.2.2.2.2.2.2.2.2.2.2.1,()))else none else none else none
def mA:=kO bi k0
def FL:Xc vw:={P:=prog,n:=10,call:=mA.1,pre:=xG,sh:=BV}
theorem kM:aB prog 94 pP e_:=fn0 FL Tryz.func94 mA.2
def BW:aE vw:={rcut:=aw}
def pQ:Sig vw:={params:=[.bp 100000 0,lU],objs:=[(100000, .box none [.bp 100001 0,Dq6,Dq1,Dq1,Dq1,Dq1,Dq6,Dq4,Dq4,Dq7, .vh 100002, .vh 100003,Dq1,Dq1,Dq8]),(100001, .box none [Dq3,Dq4,Dq1, .vh 100004,Dq1, .vh 100005,Dq1,Dq5]),(100002,Oq2),(100003,Oq2),(100004,Oq9),(100005,Oq2)],rcut:=aw,rvars:=[],keep:=[100000,100001,100002,3011,100004,100005]}
noncomputable def fa(v:Tq2):Option (Tq1):=bJ (ah.mk (ak.mk (0:Int) (0:Int) (Qa #[]) false false) (0:Int) false v.1.name0 (ak.mk (0:Int) (0:Int) (Qa #[]) false false),v.2)>>=λx1=>if x1.2.2.2.2.2.2.2.2.2.2.2.2.2.2.2.2.2.2.1.length=v.2.2.2.2.2.2.2.2.2.2.2.2.2.2.2.2.2.2.2.1.length then if x1.2.2.2.2.2.2.2.2.2.2.2.2.2.2.2.2.2.2.2.2.1.length=v.2.2.2.2.2.2.2.2.2.2.2.2.2.2.2.2.2.2.2.2.2.1.length then if x1.2.2.2.2.2.2.2.2.2.2.2.2.2.2.2.2.2.2.2.2.2.1.length=v.2.2.2.2.2.2.2.2.2.2.2.2.2.2.2.2.2.2.2.2.2.2.1.length then some (x1)else none else none else none
def mB:=kO bI k0
def FM:Xc vw:=mX prog 9 mB.1 BW [] [] []
theorem kN:aB prog 95 pQ fa:=fn0 FM Tryz.func95 mB.2
def BX:aE vw:={rcut:=db}
def xH:Nat->Bool:=λk=>match k with|7000004=>true|_=>false
def pR:Sig vw:={params:=[.bp 100000 0,lU],objs:=[(100000, .box none [.bp 100001 0,Dq6,Dq1,Dq1,Dq1,Dq1,Dq6,Dq4,Dq4,Dq7, .vh 100002, .vh 100003,Dq1,Dq1,Dq8]),(100001, .box none [Dq3,Dq4,Dq1, .vh 100004,Dq1, .vh 100005,Dq1,Dq5]),(100002,Oq2),(100003,Oq2),(100004,Oq9),(100005,Oq2)],rcut:=db,rvars:=[],keep:=[100000,100001,100002,100003,100004,100005]}
noncomputable def fb(v:Tq2):Option (Tq1):=if v.2.2.2.2.2.2.2.2.2.2.2.2.2.2.1=true then cW ((1:Int),v.1.a,v.2.2.2.2.2.2.2.2.2.2.2.2.2.1,v.2.2.2.2.2.2.2.2.2.2.2.2.2.2.1,v.2.2.2.2.2.2.2.2.2.2.2.2.2.2.2.1,v.2.2.2.2.2.2.2.2.2.2.2.2.2.2.2.2.1,v.2.2.2.2.2.2.2.2.2.2.2.2.2.2.2.2.2.1,v.2.2.2.2.2.2.2.2.2.2.2.2.2.2.2.2.2.2.1,v.2.2.2.2.2.2.2.2.2.2.2.2.2.2.2.2.2.2.2.2.2)>>=λx1=>if x1.2.2.2.2.2.2.1.length=v.2.2.2.2.2.2.2.2.2.2.2.2.2.2.2.2.2.2.2.2.2.1.length then if x1.2.2.2.2.2.2.2.1.length=v.2.2.2.2.2.2.2.2.2.2.2.2.2.2.2.2.2.2.2.2.2.2.1.length then some (v.2.1,v.2.2.1,v.2.2.2.1,v.2.2.2.2.1,v.2.2.2.2.2.1,v.2.2.2.2.2.2.1,v.2.2.2.2.2.2.2.1,v.2.2.2.2.2.2.2.2.1,v.2.2.2.2.2.2.2.2.2.1,v.2.2.2.2.2.2.2.2.2.2.1,v.2.2.2.2.2.2.2.2.2.2.2.1,v.2.2.2.2.2.2.2.2.2.2.2.2.1,x1.1,x1.2.1,x1.2.2.1,x1.2.2.2.1,x1.2.2.2.2.1,x1.2.2.2.2.2.1,v.2.2.2.2.2.2.2.2.2.2.2.2.2.2.2.2.2.2.2.1,v.2.2.2.2.2.2.2.2.2.2.2.2.2.2.2.2.2.2.2.2.1,x1.2.2.2.2.2.2)else none else none else qw ((0:Int),())>>=λx1=>some (v.2.1,v.2.2.1,v.2.2.2.1,v.2.2.2.2.1,v.2.2.2.2.2.1,v.2.2.2.2.2.2.1,v.2.2.2.2.2.2.2.1,v.2.2.2.2.2.2.2.2.1,v.2.2.2.2.2.2.2.2.2.1,v.2.2.2.2.2.2.2.2.2.2.1,v.2.2.2.2.2.2.2.2.2.2.2.1,some x1.1,v.2.2.2.2.2.2.2.2.2.2.2.2.2)
def mC:=kO fp (kP jm k0)
def FN:Xc vw:={P:=prog,n:=23,call:=mC.1,pre:=xH,sh:=BX}
theorem kQ:aB prog 96 pR fb:=fn0 FN Tryz.func96 mC.2
end Go.Proofs.YtcghbgmmgcljkaaGreatDoor
end
